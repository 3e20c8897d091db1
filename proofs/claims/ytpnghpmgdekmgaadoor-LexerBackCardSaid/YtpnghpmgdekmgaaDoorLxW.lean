import Derived.Test.YtpnghpmgdekmgaaDoorLxR
namespace Go.Proofs.YtpnghpmgdekmgaaDoor.Q
open Go.RowKit Go.Proofs.YtpnghpmgdekmgaaDoorW.PrintWords Go.Proofs.YtpnghpmgdekmgaaDoorW.PrintLast Go.Proofs.YtpnghpmgdekmgaaDoorW.PrintMore
set_option linter.unusedVariables false
set_option linter.unusedSimpArgs false

/-- A rune of a quoted word: the state, the word, the words behind it; none: it may not stand there. -/
def withinS (st : Int) (xs : List Int) (ws : List ByteArray) (c : Int) : Option (Int × List Int × List ByteArray) :=
  if st = 3 then
    (if c = 110 then some (2, xs ++ Lib.encodeRuneZ 10, ws) else if c = 34 then some (2, xs ++ Lib.encodeRuneZ c, ws) else if c = 92 then some (2, xs ++ Lib.encodeRuneZ c, ws) else none)
  else if c = 34 then some (4, [], ws ++ [strOfNums xs])
  else if c = 92 then some (3, xs, ws)
  else if c < 32 then none
  else if c = 127 then none
  else some (st, xs ++ Lib.encodeRuneZ c, ws)
/-- A rune of a line: (a remark hasn't begun, the state, the word, the words). -/
def readS (st : Int) (xs : List Int) (ws : List ByteArray) (c : Int) : Option (Bool × Int × List Int × List ByteArray) :=
  if st = 2 ∨ st = 3 then (withinS st xs ws c).map (fun r => (true, r))
  else if c = 32 ∨ c = 9 ∨ c = 35 then (if st = 1 then some (c != 35, 0, [], ws ++ [strOfNums xs]) else some (c != 35, 0, xs, ws))
  else if st = 4 then none
  else if c = 34 then (if st = 1 then none else some (true, 2, xs, ws))
  else if c < 32 then none
  else if c = 127 then none
  else some (true, 1, xs ++ Lib.encodeRuneZ c, ws)

theorem odd_yes1 (c : Int) (h : c < 32) (w : World) : Calls Tryd.prog 27 #[.int .i32 c] w fun e w' => e = .returned (.bool true) ∧ w' = w := by
  have h1 : decide (c < 32) = true := decide_eq_true h
  go_enter Tryd.func27, Tryd.ntmps27
  go_wp2
  go_ret
  exact ⟨rfl, rfl⟩
theorem odd_yes2 (c : Int) (h : c = 127) (w : World) : Calls Tryd.prog 27 #[.int .i32 c] w fun e w' => e = .returned (.bool true) ∧ w' = w := by
  subst h
  go_enter Tryd.func27, Tryd.ntmps27
  go_wp2
  go_ret
  exact ⟨rfl, rfl⟩
theorem odd_no (c : Int) (h : ¬ c < 32) (h2 : ¬ c = 127) (w : World) : Calls Tryd.prog 27 #[.int .i32 c] w fun e w' => e = .returned (.bool false) ∧ w' = w := by
  have h1 : decide (c < 32) = false := decide_eq_false h
  have h3 : (c == 127) = false := beq_eq_false_iff_ne.2 h2
  go_enter Tryd.func27, Tryd.ntmps27
  go_wp2
  go_ret
  exact ⟨rfl, rfl⟩
theorem odd_any (c : Int) (w : World) : Calls Tryd.prog 27 #[.int .i32 c] w fun e w' => e = .returned (.bool (decide (c < 32 ∨ c = 127))) ∧ w' = w := by
  by_cases h : c < 32
  · rw [decide_eq_true (Or.inl h)]; exact odd_yes1 c h w
  · by_cases h2 : c = 127
    · rw [decide_eq_true (Or.inr h2)]; exact odd_yes2 c h2 w
    · rw [decide_eq_false (by rintro (h3 | h3); exact h h3; exact h2 h3)]; exact odd_no c h h2 w

/-- What a method of the reader leaves: its answer, the reader if that is wanted, all else kept. -/
def Leaves (B : Nat) (w : World) (g : Nat) (v : Value) (o : Option (Int × List Int × List ByteArray)) (e : Ending) (w' : World) : Prop :=
  e = .returned v ∧ (∀ r, o = some r → IsRd B w' g r.1 r.2.1 r.2.2) ∧ Keep B w w'

section
variable (B g : Nat) (w : World) (st : Int) (xs : List Int) (ws : List ByteArray) (c : Int)
set_option maxHeartbeats 2000000 in
theorem within_calls (h : IsRd B w g st xs ws) (hc0 : -2147483648 ≤ c) (hc1 : c ≤ 2147483647) (hl : xs.length + 4 ≤ 140737488355328) (hw : (ws.length + 1) * 16 ≤ 140737488355328) :
    Calls Tryd.prog 26 #[.pointer (some ⟨g, 0, none⟩), .int .i32 c] w (Leaves B w g (.bool (withinS st xs ws c).isSome) (withinS st xs ws c)) := by
  obtain ⟨cc, cf⟩ := h.cell
  have HR := Lib.hid h
  clear h
  by_cases s3 : st = 3
  · subst s3
    by_cases c1 : c = 110
    · subst c1
      have hfin : withinS 3 xs ws 110 = some (2, xs ++ Lib.encodeRuneZ 10, ws) := by simp [withinS]
      rw [hfin]
      clear hfin
      go_enter Tryd.func26, Tryd.ntmps26
      go_wp2_with (first | (go_at_call 28; refine (rd_rune B g _ 2 xs ws 10 (HR.out.set 2).1 (by omega) (by omega) hl).mono ?_; rintro e w1 ⟨v, rfl, h1, k1⟩; have H1 := Lib.hid h1; have K1 := Lib.hid k1; clear h1 k1))
      go_ret
      exact ⟨rfl, fun r hr => (Option.some.inj hr) ▸ H1.out, (HR.out.set 2).2.trans K1.out⟩
    · have d1 : (c == 110) = false := beq_eq_false_iff_ne.2 c1
      by_cases c2 : c = 34
      · subst c2
        clear d1 c1
        have hfin : withinS 3 xs ws 34 = some (2, xs ++ Lib.encodeRuneZ 34, ws) := by simp [withinS]
        rw [hfin]
        clear hfin
        go_enter Tryd.func26, Tryd.ntmps26
        go_wp2_with (first | (go_at_call 28; refine (rd_rune B g _ 2 xs ws 34 (HR.out.set 2).1 (by omega) (by omega) hl).mono ?_; rintro e w1 ⟨v, rfl, h1, k1⟩; have H1 := Lib.hid h1; have K1 := Lib.hid k1; clear h1 k1))
        go_ret
        exact ⟨rfl, fun r hr => (Option.some.inj hr) ▸ H1.out, (HR.out.set 2).2.trans K1.out⟩
      · have d2 : (c != 34) = true := bne_iff_ne.2 c2
        have d2' : (c == 34) = false := beq_eq_false_iff_ne.2 c2
        by_cases c3 : c = 92
        · subst c3
          clear d1 c1 d2 d2' c2
          have hfin : withinS 3 xs ws 92 = some (2, xs ++ Lib.encodeRuneZ 92, ws) := by simp [withinS]
          rw [hfin]
          clear hfin
          go_enter Tryd.func26, Tryd.ntmps26
          go_wp2_with (first | (go_at_call 28; refine (rd_rune B g _ 2 xs ws 92 (HR.out.set 2).1 (by omega) (by omega) hl).mono ?_; rintro e w1 ⟨v, rfl, h1, k1⟩; have H1 := Lib.hid h1; have K1 := Lib.hid k1; clear h1 k1))
          go_ret
          exact ⟨rfl, fun r hr => (Option.some.inj hr) ▸ H1.out, (HR.out.set 2).2.trans K1.out⟩
        · have d3 : (c != 92) = true := bne_iff_ne.2 c3
          have hfin : withinS 3 xs ws c = none := by simp [withinS, c1, c2, c3]
          rw [hfin]
          clear hfin
          go_enter Tryd.func26, Tryd.ntmps26
          go_wp2
          go_ret
          exact ⟨rfl, (fun r hr => (by cases hr)), Keep.refl _ _⟩
  · have d0 : (st == 3) = false := beq_eq_false_iff_ne.2 s3
    by_cases c1 : c = 34
    · subst c1
      have hfin : withinS st xs ws 34 = some (4, [], ws ++ [strOfNums xs]) := by simp [withinS, s3]
      rw [hfin]
      clear hfin
      have e34 : ((34 : Int) == 34) = true := rfl
      go_enter Tryd.func26, Tryd.ntmps26
      go_wp2_with (first | (go_at_call 18; refine (rd_end B g _ st xs ws HR.out hw).mono ?_; rintro e w1 ⟨rfl, h1, k1⟩; obtain ⟨cc1, cf1⟩ := h1.cell; have H1 := Lib.hid h1; have K1 := Lib.hid k1; clear h1 k1))
      go_ret
      exact ⟨rfl, fun r hr => (Option.some.inj hr) ▸ (H1.out.set 4).1, K1.out.trans (H1.out.set 4).2⟩
    · have d1 : (c == 34) = false := beq_eq_false_iff_ne.2 c1
      by_cases c2 : c = 92
      · subst c2
        have hfin : withinS st xs ws 92 = some (3, xs, ws) := by simp [withinS, s3]
        rw [hfin]
        clear hfin
        clear d1
        go_enter Tryd.func26, Tryd.ntmps26
        go_wp2
        go_ret
        exact ⟨rfl, fun r hr => (Option.some.inj hr) ▸ (HR.out.set 3).1, (HR.out.set 3).2⟩
      · have d2 : (c == 92) = false := beq_eq_false_iff_ne.2 c2
        by_cases c3 : c < 32
        · skip
          have hfin : withinS st xs ws c = none := by simp [withinS, s3, c1, c2, c3]
          rw [hfin]
          clear hfin
          go_enter Tryd.func26, Tryd.ntmps26
          go_wp2_with (first | (go_at_call 27; refine (odd_yes1 c c3 _).mono ?_; rintro e w' ⟨rfl, rfl⟩))
          go_ret
          exact ⟨rfl, (fun r hr => (by cases hr)), Keep.refl _ _⟩
        · by_cases c4 : c = 127
          · skip
            have hfin : withinS st xs ws c = none := by simp [withinS, s3, c1, c2, c3, c4]
            rw [hfin]
            clear hfin
            have C4 := Lib.hid c4
            clear c4
            go_enter Tryd.func26, Tryd.ntmps26
            go_wp2_with (first | (go_at_call 27; refine (odd_yes2 c C4.out _).mono ?_; rintro e w' ⟨rfl, rfl⟩))
            go_ret
            exact ⟨rfl, (fun r hr => (by cases hr)), Keep.refl _ _⟩
          · skip
            have hfin : withinS st xs ws c = some (st, xs ++ Lib.encodeRuneZ c, ws) := by simp [withinS, s3, c1, c2, c3, c4]
            rw [hfin]
            clear hfin
            go_enter Tryd.func26, Tryd.ntmps26
            go_wp2_with (first | (go_at_call 27; refine (odd_no c c3 c4 _).mono ?_; rintro e w' ⟨rfl, rfl⟩) | (go_at_call 28; refine (rd_rune B g _ st xs ws c HR.out hc0 hc1 hl).mono ?_; rintro e w1 ⟨v, rfl, h1, k1⟩; have H1 := Lib.hid h1; have K1 := Lib.hid k1; clear h1 k1))
            go_ret
            exact ⟨rfl, fun r hr => (Option.some.inj hr) ▸ H1.out, K1.out⟩

/-- What read leaves: (more, ok). -/
def LeavesR (B : Nat) (w : World) (g : Nat) (o : Option (Bool × Int × List Int × List ByteArray)) (e : Ending) (w' : World) : Prop :=
  (∃ m, e = .returned (.tuple #[.bool m, .bool o.isSome]) ∧ ∀ r, o = some r → r.1 = m) ∧ (∀ r, o = some r → IsRd B w' g r.2.1 r.2.2.1 r.2.2.2) ∧ Keep B w w'
set_option maxHeartbeats 4000000 in
theorem read_calls (h : IsRd B w g st xs ws) (hc0 : -2147483648 ≤ c) (hc1 : c ≤ 2147483647) (hl : xs.length + 4 ≤ 140737488355328) (hw : (ws.length + 1) * 16 ≤ 140737488355328) :
    Calls Tryd.prog 17 #[.pointer (some ⟨g, 0, none⟩), .int .i32 c] w (LeavesR B w g (readS st xs ws c)) := by
  obtain ⟨cc, cf⟩ := h.cell
  have HR := Lib.hid h
  clear h
  by_cases s2 : st = 2
  · subst s2
    have hfin : readS 2 xs ws c = (withinS 2 xs ws c).map (fun r => (true, r)) := by simp [readS]
    rw [hfin]
    clear hfin
    generalize hz : withinS 2 xs ws c = z
    have HW : Calls Tryd.prog 26 #[.pointer (some ⟨g, 0, none⟩), .int .i32 c] w (Leaves B w g (.bool z.isSome) z) := hz ▸ within_calls B g w 2 xs ws c HR.out hc0 hc1 hl hw
    have HZ := Lib.hid HW
    clear HW hz
    go_enter Tryd.func17, Tryd.ntmps17
    go_wp2_with (go_at_call 26; refine HZ.out.mono ?_; rintro e w1 ⟨rfl, h1, k1⟩; have H1 := Lib.hid h1; have K1 := Lib.hid k1; clear h1 k1)
    go_ret2
    refine ⟨⟨true, by cases z <;> rfl, ?_⟩, ?_, K1.out⟩
    · intro r hr
      cases z with
      | none => cases hr
      | some y => rw [← Option.some.inj hr]
    · intro r hr
      cases z with
      | none => cases hr
      | some y => rw [← Option.some.inj hr]; exact H1.out y rfl
  · have d2 : (st == 2) = false := beq_eq_false_iff_ne.2 s2
    by_cases s3 : st = 3
    · subst s3
      have hfin : readS 3 xs ws c = (withinS 3 xs ws c).map (fun r => (true, r)) := by simp [readS]
      rw [hfin]
      clear hfin
      clear d2
      generalize hz : withinS 3 xs ws c = z
      have HW : Calls Tryd.prog 26 #[.pointer (some ⟨g, 0, none⟩), .int .i32 c] w (Leaves B w g (.bool z.isSome) z) := hz ▸ within_calls B g w 3 xs ws c HR.out hc0 hc1 hl hw
      have HZ := Lib.hid HW
      clear HW hz
      go_enter Tryd.func17, Tryd.ntmps17
      go_wp2_with (go_at_call 26; refine HZ.out.mono ?_; rintro e w1 ⟨rfl, h1, k1⟩; have H1 := Lib.hid h1; have K1 := Lib.hid k1; clear h1 k1)
      go_ret2
      refine ⟨⟨true, by cases z <;> rfl, ?_⟩, ?_, K1.out⟩
      · intro r hr
        cases z with
        | none => cases hr
        | some y => rw [← Option.some.inj hr]
      · intro r hr
        cases z with
        | none => cases hr
        | some y => rw [← Option.some.inj hr]; exact H1.out y rfl
    · have d3 : (st == 3) = false := beq_eq_false_iff_ne.2 s3
      by_cases c1 : c = 32
      · subst c1
        by_cases s1 : st = 1
        · subst s1
          have hfin : readS 1 xs ws 32 = some (true, 0, [], ws ++ [strOfNums xs]) := by simp [readS]
          rw [hfin]
          clear hfin
          clear d2 d3 s2 s3
          go_enter Tryd.func17, Tryd.ntmps17
          go_wp2_with (first | (go_at_call 18; refine (rd_end B g _ 1 xs ws HR.out hw).mono ?_; rintro e w1 ⟨rfl, h1, k1⟩; obtain ⟨cc1, cf1⟩ := h1.cell; have H1 := Lib.hid h1; have K1 := Lib.hid k1; clear h1 k1))
          go_ret2
          exact ⟨⟨_, rfl, fun r hr => (Option.some.inj hr) ▸ rfl⟩, fun r hr => (Option.some.inj hr) ▸ (H1.out.set 0).1, K1.out.trans (H1.out.set 0).2⟩
        · have d1 : (st == 1) = false := beq_eq_false_iff_ne.2 s1
          have hfin : readS st xs ws 32 = some (true, 0, xs, ws) := by simp [readS, s1, s2, s3]
          rw [hfin]
          clear hfin
          go_enter Tryd.func17, Tryd.ntmps17
          go_wp2
          go_ret2
          exact ⟨⟨_, rfl, fun r hr => (Option.some.inj hr) ▸ rfl⟩, fun r hr => (Option.some.inj hr) ▸ (HR.out.set 0).1, (HR.out.set 0).2⟩
      · have e1 : (c == 32) = false := beq_eq_false_iff_ne.2 c1
        by_cases c2 : c = 9
        · subst c2
          by_cases s1 : st = 1
          · subst s1
            have hfin : readS 1 xs ws 9 = some (true, 0, [], ws ++ [strOfNums xs]) := by simp [readS]
            rw [hfin]
            clear hfin
            clear e1 c1
            clear d2 d3 s2 s3
            go_enter Tryd.func17, Tryd.ntmps17
            go_wp2_with (first | (go_at_call 18; refine (rd_end B g _ 1 xs ws HR.out hw).mono ?_; rintro e w1 ⟨rfl, h1, k1⟩; obtain ⟨cc1, cf1⟩ := h1.cell; have H1 := Lib.hid h1; have K1 := Lib.hid k1; clear h1 k1))
            go_ret2
            exact ⟨⟨_, rfl, fun r hr => (Option.some.inj hr) ▸ rfl⟩, fun r hr => (Option.some.inj hr) ▸ (H1.out.set 0).1, K1.out.trans (H1.out.set 0).2⟩
          · have d1 : (st == 1) = false := beq_eq_false_iff_ne.2 s1
            have hfin : readS st xs ws 9 = some (true, 0, xs, ws) := by simp [readS, s1, s2, s3]
            rw [hfin]
            clear hfin
            clear e1 c1
            go_enter Tryd.func17, Tryd.ntmps17
            go_wp2
            go_ret2
            exact ⟨⟨_, rfl, fun r hr => (Option.some.inj hr) ▸ rfl⟩, fun r hr => (Option.some.inj hr) ▸ (HR.out.set 0).1, (HR.out.set 0).2⟩
        · have e2 : (c == 9) = false := beq_eq_false_iff_ne.2 c2
          by_cases c3 : c = 35
          · subst c3
            by_cases s1 : st = 1
            · subst s1
              have hfin : readS 1 xs ws 35 = some (false, 0, [], ws ++ [strOfNums xs]) := by simp [readS]
              rw [hfin]
              clear hfin
              clear e1 c1 e2 c2
              clear d2 d3 s2 s3
              go_enter Tryd.func17, Tryd.ntmps17
              go_wp2_with (first | (go_at_call 18; refine (rd_end B g _ 1 xs ws HR.out hw).mono ?_; rintro e w1 ⟨rfl, h1, k1⟩; obtain ⟨cc1, cf1⟩ := h1.cell; have H1 := Lib.hid h1; have K1 := Lib.hid k1; clear h1 k1))
              go_ret2
              exact ⟨⟨_, rfl, fun r hr => (Option.some.inj hr) ▸ rfl⟩, fun r hr => (Option.some.inj hr) ▸ (H1.out.set 0).1, K1.out.trans (H1.out.set 0).2⟩
            · have d1 : (st == 1) = false := beq_eq_false_iff_ne.2 s1
              have hfin : readS st xs ws 35 = some (false, 0, xs, ws) := by simp [readS, s1, s2, s3]
              rw [hfin]
              clear hfin
              clear e1 c1 e2 c2
              go_enter Tryd.func17, Tryd.ntmps17
              go_wp2
              go_ret2
              exact ⟨⟨_, rfl, fun r hr => (Option.some.inj hr) ▸ rfl⟩, fun r hr => (Option.some.inj hr) ▸ (HR.out.set 0).1, (HR.out.set 0).2⟩
          · have e3 : (c == 35) = false := beq_eq_false_iff_ne.2 c3
            by_cases s4 : st = 4
            · subst s4
              have hfin : readS 4 xs ws c = none := by simp [readS, c1, c2, c3]
              rw [hfin]
              clear hfin
              clear d2 d3 s2 s3
              go_enter Tryd.func17, Tryd.ntmps17
              go_wp2
              go_ret2
              exact ⟨⟨_, rfl, fun r hr => (by cases hr)⟩, fun r hr => (by cases hr), Keep.refl _ _⟩
            · have d4 : (st == 4) = false := beq_eq_false_iff_ne.2 s4
              by_cases c4 : c = 34
              · subst c4
                clear e1 e2 e3 c1 c2 c3
                by_cases s1 : st = 1
                · subst s1
                  have hfin : readS 1 xs ws 34 = none := by simp [readS]
                  rw [hfin]
                  clear hfin
                  clear d2 d3 d4 s2 s3 s4
                  go_enter Tryd.func17, Tryd.ntmps17
                  go_wp2
                  go_ret2
                  exact ⟨⟨_, rfl, fun r hr => (by cases hr)⟩, fun r hr => (by cases hr), Keep.refl _ _⟩
                · have d1 : (st == 1) = false := beq_eq_false_iff_ne.2 s1
                  have hfin : readS st xs ws 34 = some (true, 2, xs, ws) := by simp [readS, s1, s2, s3, s4]
                  rw [hfin]
                  clear hfin
                  go_enter Tryd.func17, Tryd.ntmps17
                  go_wp2
                  go_ret2
                  exact ⟨⟨_, rfl, fun r hr => (Option.some.inj hr) ▸ rfl⟩, fun r hr => (Option.some.inj hr) ▸ (HR.out.set 2).1, (HR.out.set 2).2⟩
              · have e4 : (c == 34) = false := beq_eq_false_iff_ne.2 c4
                have e4' : (c != 34) = true := bne_iff_ne.2 c4
                by_cases c5 : c < 32
                · skip
                  have hfin : readS st xs ws c = none := by simp [readS, s2, s3, s4, c1, c2, c3, c4, c5]
                  rw [hfin]
                  clear hfin
                  go_enter Tryd.func17, Tryd.ntmps17
                  go_wp2_with (first | (go_at_call 27; refine (odd_yes1 c c5 _).mono ?_; rintro e w' ⟨rfl, rfl⟩))
                  go_ret2
                  exact ⟨⟨_, rfl, fun r hr => (by cases hr)⟩, fun r hr => (by cases hr), Keep.refl _ _⟩
                · by_cases c6 : c = 127
                  · skip
                    have hfin : readS st xs ws c = none := by simp [readS, s2, s3, s4, c1, c2, c3, c4, c5, c6]
                    rw [hfin]
                    clear hfin
                    have C6 := Lib.hid c6
                    clear c6
                    go_enter Tryd.func17, Tryd.ntmps17
                    go_wp2_with (first | (go_at_call 27; refine (odd_yes2 c C6.out _).mono ?_; rintro e w' ⟨rfl, rfl⟩))
                    go_ret2
                    exact ⟨⟨_, rfl, fun r hr => (by cases hr)⟩, fun r hr => (by cases hr), Keep.refl _ _⟩
                  · skip
                    have hfin : readS st xs ws c = some (true, 1, xs ++ Lib.encodeRuneZ c, ws) := by simp [readS, s2, s3, s4, c1, c2, c3, c4, c5, c6]
                    rw [hfin]
                    clear hfin
                    go_enter Tryd.func17, Tryd.ntmps17
                    go_wp2_with (first | (go_at_call 27; refine (odd_no c c5 c6 _).mono ?_; rintro e w' ⟨rfl, rfl⟩) | (go_at_call 28; refine (rd_rune B g _ 1 xs ws c (HR.out.set 1).1 hc0 hc1 hl).mono ?_; rintro e w1 ⟨v, rfl, h1, k1⟩; have H1 := Lib.hid h1; have K1 := Lib.hid k1; clear h1 k1))
                    go_ret2
                    exact ⟨⟨_, rfl, fun r hr => (Option.some.inj hr) ▸ rfl⟩, fun r hr => (Option.some.inj hr) ▸ H1.out, (HR.out.set 1).2.trans K1.out⟩
end
end Go.Proofs.YtpnghpmgdekmgaaDoor.Q

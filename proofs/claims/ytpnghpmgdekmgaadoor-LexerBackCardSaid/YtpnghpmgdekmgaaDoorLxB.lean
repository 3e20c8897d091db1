import Derived.Test.YtpnghpmgdekmgaaDoorLxA
import Derived.Test.YtpnghpmgdekmgaaDoorLxS
import Derived.Test.YtpnghpmgdekmgaaDoorQf9
import Derived.Test.YtpnghpmgdekmgaaDoorQf10
namespace Go.Proofs.YtpnghpmgdekmgaaDoor.Q
open Go.RowKit Go.Proofs.YtpnghpmgdekmgaaDoorW.PrintWords Go.Proofs.YtpnghpmgdekmgaaDoorW.PrintLast Go.Proofs.YtpnghpmgdekmgaaDoorW.PrintMore
set_option linter.unusedVariables false
set_option linter.unusedSimpArgs false

theorem wrapN (i : Nat) (h : i ≤ 1000000) : wrap64 ((i : Int) + 1) = ((i + 1 : Nat) : Int) := by
  unfold wrap64; omega
/-- A list from a place on. -/
theorem at_drop {p r : List Int} {i : Nat} {c : Int} (h : p.drop i = c :: r) : i < p.length ∧ rd p (i : Int) = c ∧ p.drop (i + 1) = r ∧ (p.take (i + 1)).drop i = [c] ∧ p.length = i + 1 + r.length := by
  have hl := congrArg List.length h
  rw [List.length_drop, List.length_cons] at hl
  have hi : i < p.length := by omega
  rw [List.drop_eq_getElem_cons hi] at h
  injection h with h1 h2
  refine ⟨hi, ?_, h2, ?_, by omega⟩
  · unfold rd
    rw [Int.toNat_natCast, List.getD_eq_getElem?_getD, List.getElem?_eq_getElem hi]
    exact h1
  · rw [List.drop_take, List.drop_eq_getElem_cons hi, h1, show i + 1 - i = 1 by omega]
    rfl
theorem end_drop {p : List Int} {i : Nat} (h : p.drop i = []) (hi : i ≤ p.length) : i = p.length := by
  have := congrArg List.length h
  rw [List.length_drop] at this
  simp at this
  omega
theorem strs_snoc (xs : List Int) (c : Int) : strOfNums xs ++ strOfNums [c] = strOfNums (xs ++ [c]) := by
  apply ByteArray.ext
  simp [strOfNums]

/-- A quoted word: the word, and what lies behind it. -/
def qrun : List Int → List Int → Option (List Int × List Int)
  | _, [] => none
  | xs, c :: r =>
    if c = 34 then some (xs, r)
    else if c = 92 then (match r with
      | [] => none
      | d :: r' => if d = 110 then qrun (xs ++ [10]) r' else if d = 34 then qrun (xs ++ [d]) r' else if d = 92 then qrun (xs ++ [d]) r' else none)
    else if c < 32 then none else if c = 127 then none else qrun (xs ++ [c]) r
theorem qrun_cons (xs : List Int) (c : Int) (r : List Int) : qrun xs (c :: r) = if c = 34 then some (xs, r)
    else if c = 92 then (match r with
      | [] => none
      | d :: r' => if d = 110 then qrun (xs ++ [10]) r' else if d = 34 then qrun (xs ++ [d]) r' else if d = 92 then qrun (xs ++ [d]) r' else none)
    else if c < 32 then none else if c = 127 then none else qrun (xs ++ [c]) r := by
  rw [qrun.eq_def]
def okBehind : List Int → Bool
  | [] => true
  | c :: _ => decide (c = 32 ∨ c = 9 ∨ c = 35)

theorem quoted_run (p : List Int) (hn : p.length ≤ 20000) : ∀ (m : Nat) (k i : Nat) (xs : List Int), p.length - i ≤ m → m < k → i ≤ p.length → xs.length ≤ i →
    murmurationref13_quoted.l0 k p (strOfNums xs) (i : Int) = some (match qrun xs (p.drop i) with | none => ((⟨#[]⟩ : ByteArray), 0, false) | some (w, r) => (strOfNums w, ((p.length - r.length : Nat) : Int), okBehind r))
  | m, 0, i, xs, _, hk, _, _ => by omega
  | m, k + 1, i, xs, hm, hk, hi, hx => by
    simp only [murmurationref13_quoted.l0]
    cases hd : p.drop i with
    | nil =>
      have := end_drop hd hi
      rw [if_neg (by omega)]
      rfl
    | cons c r =>
      obtain ⟨h1, h2, h3, h4, h5⟩ := at_drop hd
      rw [if_pos (by omega), if_pos (by omega), h2, wrapN i (by omega)]
      have hsz := strOfNums_size xs
      by_cases c34 : c = 34
      · rw [if_pos c34]
        simp only [qrun_cons, if_pos c34]
        cases r with
        | nil =>
          rw [if_pos (by simp at h5; omega)]
          simp only [okBehind, List.length_nil, Nat.sub_zero]
          rw [h5]; simp
        | cons d r' =>
          obtain ⟨g1, g2, g3, g4, g5⟩ := at_drop h3
          rw [if_neg (by simp at h5; omega), if_pos (by omega), if_pos (by omega), g2]
          have e5 : ((p.length - (d :: r').length : Nat) : Int) = ((i + 1 : Nat) : Int) := by omega
          rw [e5]
          simp only [okBehind]
          by_cases d32 : d = 32
          · rw [if_pos d32, decide_eq_true (Or.inl d32)]
          · rw [if_neg d32]
            by_cases d9 : d = 9
            · rw [if_pos d9, decide_eq_true (Or.inr (Or.inl d9))]
            · rw [if_neg d9]
              by_cases d35 : d = 35
              · rw [decide_eq_true (Or.inr (Or.inr d35)), beq_iff_eq.2 d35]
              · rw [decide_eq_false (by omega), beq_eq_false_iff_ne.2 d35]
      · rw [if_neg c34]
        simp only [qrun_cons, if_neg c34]
        by_cases c92 : c = 92
        · rw [if_pos c92]
          simp only [if_pos c92]
          cases r with
          | nil => rw [if_pos (by simp at h5; omega)]
          | cons d r' =>
            obtain ⟨g1, g2, g3, g4, g5⟩ := at_drop h3
            rw [if_neg (by simp at h5; omega), if_pos (by omega), if_pos (by omega), g2, wrapN (i + 1) (by omega)]
            have ih := fun c => quoted_run p hn (m - 2) k (i + 1 + 1) (xs ++ [c]) (by omega) (by omega) (by omega) (by simp; omega)
            rw [g3] at ih
            by_cases d110 : d = 110
            · simp only [if_pos d110]
              rw [if_pos (by omega), show (⟨#[10]⟩ : ByteArray) = strOfNums [10] from rfl, strs_snoc]
              exact ih 10
            · simp only [if_neg d110]
              have hcut : ((p.take (((i + 1 + 1 : Nat) : Int)).toNat).drop (((i + 1 : Nat) : Int)).toNat) = [d] := by rw [Int.toNat_natCast, Int.toNat_natCast]; exact g4
              by_cases d34 : d = 34
              · simp only [if_pos d34]
                rw [if_pos (by omega), if_pos (by omega), hcut, if_pos (by rw [strOfNums_size, strOfNums_size, List.length_singleton]; omega), strs_snoc]
                exact ih d
              · simp only [if_neg d34]
                by_cases d92 : d = 92
                · simp only [if_pos d92]
                  rw [if_pos (by omega), if_pos (by omega), hcut, if_pos (by rw [strOfNums_size, strOfNums_size, List.length_singleton]; omega), strs_snoc]
                  exact ih d
                · simp only [if_neg d92]
        · rw [if_neg c92]
          simp only [if_neg c92]
          have ih := quoted_run p hn (m - 1) k (i + 1) (xs ++ [c]) (by omega) (by omega) (by omega) (by simp; omega)
          rw [h3] at ih
          unfold murmurationref13_ctrl.f
          by_cases c32 : c < 32
          · simp only [if_pos c32, Option.bind_some, if_true]
          · simp only [if_neg c32, Option.bind_some]
            by_cases c127 : c = 127
            · rw [if_pos (by rw [c127]; rfl), if_pos c127]
            · rw [if_neg (by simp [c127]), if_neg c127]
              have hcut : ((p.take (((i + 1 : Nat) : Int)).toNat).drop ((i : Nat) : Int).toNat) = [c] := by rw [Int.toNat_natCast, Int.toNat_natCast]; exact h4
              rw [if_pos (by omega), if_pos (by omega), hcut, if_pos (by rw [strOfNums_size, strOfNums_size, List.length_singleton]; omega), strs_snoc]
              exact ih

theorem lineB_cons (st : Int) (xs : List Int) (ws : List ByteArray) (b : Int) (bs : List Int) : lineB st xs ws (b :: bs) = match readB st xs ws b with
    | none => none
    | some r => if r.1 = true then lineB r.2.1 r.2.2.1 r.2.2.2 bs else some r.2 := rfl
/-- Within a quoted word. -/
theorem lineB_quoted : ∀ (rest : List Int) (xs : List Int) (ws : List ByteArray), (∀ x ∈ rest, 0 ≤ x ∧ x < 256) →
    match qrun xs rest with
    | some (w, r) => lineB 2 xs ws rest = lineB 4 [] (ws ++ [strOfNums w]) r
    | none => (lineEnd (lineB 2 xs ws rest)).2 = false
  | [], xs, ws, _ => rfl
  | [c], xs, ws, hb => by
    rw [qrun_cons, lineB_cons]
    have h0 := hb c (by simp)
    by_cases c34 : c = 34
    · subst c34; rfl
    · rw [if_neg c34]
      by_cases c92 : c = 92
      · subst c92; rfl
      · rw [if_neg c92]
        by_cases c32 : c < 32
        · rw [if_pos c32]
          simp only [readB, readS, withinS, if_pos (show c < 128 by omega), if_neg c34, if_neg c92, if_pos c32]
          rfl
        · rw [if_neg c32]
          by_cases c127 : c = 127
          · subst c127; rfl
          · rw [if_neg c127]
            by_cases c128 : c < 128
            · simp only [readB, readS, withinS, if_pos c128, if_neg c34, if_neg c92, if_neg c32, if_neg c127]
              rfl
            · simp only [readB, if_neg c128]
              rfl
  | c :: d :: r, xs, ws, hb => by
    rw [qrun_cons, lineB_cons]
    have h0 := hb c (by simp)
    have hd0 := hb d (by simp)
    by_cases c34 : c = 34
    · subst c34; rfl
    · rw [if_neg c34]
      by_cases c92 : c = 92
      · subst c92
        simp only [if_true]
        have e : readB 2 xs ws 92 = some (true, 3, xs, ws) := rfl
        rw [e]
        simp only [if_true]
        rw [lineB_cons]
        have hr := fun c => lineB_quoted r (xs ++ [c]) ws (fun x hx => hb x (by simp [hx]))
        by_cases d110 : d = 110
        · subst d110
          simp only [if_true]
          exact hr 10
        · simp only [if_neg d110]
          by_cases d34 : d = 34
          · subst d34
            simp only [if_true]
            exact hr 34
          · simp only [if_neg d34]
            by_cases d92 : d = 92
            · subst d92
              simp only [if_true]
              exact hr 92
            · simp only [if_neg d92]
              by_cases d128 : d < 128
              · simp only [readB, readS, withinS, if_pos d128, if_neg d110, if_neg d34, if_neg d92]
                rfl
              · simp only [readB, if_neg d128]
                rfl
      · rw [if_neg c92]
        by_cases c32 : c < 32
        · rw [if_pos c32]
          simp only [readB, readS, withinS, if_pos (show c < 128 by omega), if_neg c34, if_neg c92, if_pos c32]
          rfl
        · rw [if_neg c32]
          by_cases c127 : c = 127
          · subst c127; rfl
          · rw [if_neg c127]
            have hr := lineB_quoted (d :: r) (xs ++ [c]) ws (fun x hx => hb x (List.mem_cons_of_mem _ hx))
            by_cases c128 : c < 128
            · have e : readB 2 xs ws c = some (true, 2, xs ++ [c], ws) := by
                simp only [readB, readS, withinS, if_pos c128, if_neg c34, if_neg c92, if_neg c32, if_neg c127]
                rw [if_pos (Or.inl trivial)]
                show Option.map _ (some (2, xs ++ Lib.encodeRuneZ c, ws)) = _
                rw [Lib.encodeRuneZ_one (by omega) (by omega)]
                rfl
              rw [e]
              simp only [if_true]
              exact hr
            · have e : readB 2 xs ws c = some (true, 2, xs ++ [c], ws) := by
                simp only [readB, if_neg c128]
                rfl
              rw [e]
              simp only [if_true]
              exact hr

theorem qrun_suffix : ∀ (rest : List Int) (xs w r : List Int), qrun xs rest = some (w, r) → r.length < rest.length ∧ rest.drop (rest.length - r.length) = r ∧ w.length ≤ xs.length + rest.length
  | [], xs, w, r, h => by cases h
  | [c], xs, w, r, h => by
    rw [qrun_cons] at h
    split at h
    · obtain ⟨rfl, rfl⟩ := Prod.mk.inj (Option.some.inj h); simp
    · split at h
      · cases h
      · split at h
        · cases h
        · split at h
          · cases h
          · cases h
  | c :: d :: t, xs, w, r, h => by
    have fin : ∀ (y : List Int) (q : Nat), y.length ≤ xs.length + 2 → r.length < t.length ∧ t.drop (t.length - r.length) = r ∧ w.length ≤ y.length + t.length → r.length < (c :: d :: t).length ∧ (c :: d :: t).drop ((c :: d :: t).length - r.length) = r ∧ w.length ≤ xs.length + (c :: d :: t).length := by
      intro y q hy ⟨h1, h2, h3⟩
      refine ⟨by simp; omega, ?_, by simp; omega⟩
      rw [show (c :: d :: t).length - r.length = (t.length - r.length) + 1 + 1 by simp; omega, List.drop_succ_cons, List.drop_succ_cons]
      exact h2
    rw [qrun_cons] at h
    split at h
    · obtain ⟨rfl, rfl⟩ := Prod.mk.inj (Option.some.inj h)
      refine ⟨by simp, ?_, by simp <;> omega⟩
      rw [show (c :: d :: t).length - (d :: t).length = 1 by simp]; rfl
    · split at h
      · simp only at h
        split at h
        · exact fin _ 0 (by simp) (qrun_suffix t _ w r h)
        · split at h
          · exact fin _ 0 (by simp) (qrun_suffix t _ w r h)
          · split at h
            · exact fin _ 0 (by simp) (qrun_suffix t _ w r h)
            · cases h
      · split at h
        · cases h
        · split at h
          · cases h
          · obtain ⟨h1, h2, h3⟩ := qrun_suffix (d :: t) _ w r h
            refine ⟨by simp at h1 ⊢; omega, ?_, by simp at h3 ⊢; omega⟩
            rw [show (c :: d :: t).length - r.length = ((d :: t).length - r.length) + 1 by simp at h1 ⊢; omega, List.drop_succ_cons]
            exact h2

/-- An answer of the reference's that agrees. -/
def Good (v E : List ByteArray × Bool) : Prop := v.2 = E.2 ∧ (E.2 = true → v.1 = E.1)
theorem Good.rfl' (v : List ByteArray × Bool) : Good v v := ⟨rfl, fun _ => rfl⟩
theorem Good.no {E : List ByteArray × Bool} (h : E.2 = false) (l : List ByteArray) : Good (l, false) E := ⟨h.symm, fun h' => by rw [h] at h'; cases h'⟩
/-- Behind a closing quote. -/
theorem behind_ok (ws : List ByteArray) (r : List Int) (h : okBehind r = true) : lineEnd (lineB 4 [] ws r) = lineEnd (lineB 0 [] ws r) := by
  cases r with
  | nil => rfl
  | cons c t =>
    have hc := of_decide_eq_true h
    rw [lineB_cons, lineB_cons]
    have e : readB 4 [] ws c = readB 0 [] ws c := by
      rcases hc with rfl | rfl | rfl <;> rfl
    rw [e]
theorem behind_bad (ws : List ByteArray) (r : List Int) (h : okBehind r = false) : (lineEnd (lineB 4 [] ws r)).2 = false := by
  cases r with
  | nil => cases h
  | cons c t =>
    have hc := of_decide_eq_false h
    rw [lineB_cons]
    have e : readB 4 [] ws c = none := by
      unfold readB readS
      split
      · simp [hc]
      · rw [if_pos (Or.inr rfl)]
    rw [e]
    rfl
/-- A rune that goes into a plain word, or may not. -/
theorem readB_plain (st : Int) (hst : st = 0 ∨ st = 1) (xs : List Int) (ws : List ByteArray) (c : Int) (h0 : 0 ≤ c ∧ c < 256) (hb : ¬ (c = 32 ∨ c = 9 ∨ c = 35)) (hq : c ≠ 34) :
    readB st xs ws c = if c < 32 ∨ c = 127 then none else some (true, 1, xs ++ [c], ws) := by
  have n2 : ¬ (st = 2 ∨ st = 3) := by omega
  have n34 : ¬ (st = 3 ∨ st = 4) := by omega
  have n4 : ¬ (st = 4) := by omega
  have n2' : ¬ (st = 2) := by omega
  unfold readB readS
  by_cases c128 : c < 128
  · rw [if_pos c128, if_neg n2, if_neg hb, if_neg n4, if_neg hq]
    by_cases c32 : c < 32
    · rw [if_pos c32, if_pos (Or.inl c32)]
    · rw [if_neg c32]
      by_cases c127 : c = 127
      · rw [if_pos c127, if_pos (Or.inr c127)]
      · rw [if_neg c127, if_neg (by omega), Lib.encodeRuneZ_one (by omega) (by omega)]
  · rw [if_neg c128, if_neg n34, if_neg n2', if_neg (by omega)]
theorem ctrl_eq (c : Int) : murmurationref13_ctrl.f c = some (decide (c < 32 ∨ c = 127)) := by
  unfold murmurationref13_ctrl.f
  by_cases h : c < 32
  · rw [if_pos h, decide_eq_true (Or.inl h)]
  · rw [if_neg h]
    by_cases h2 : c = 127
    · rw [decide_eq_true (Or.inr h2), beq_iff_eq.2 h2]
    · rw [decide_eq_false (by omega), beq_eq_false_iff_ne.2 h2]

set_option maxHeartbeats 1000000 in
theorem line_runs (p : List Int) (hn : p.length ≤ 20000) (hb : ∀ x ∈ p, 0 ≤ x ∧ x < 256) : ∀ (m : Nat),
    (∀ (k i : Nat) (xs : List Int) (ws : List ByteArray), p.length - i ≤ m → 6 * m + 6 ≤ k → i ≤ p.length → xs.length ≤ i → ws.length ≤ i →
      ∃ v, murmurationref13_line.l1 k p ws (i : Int) (strOfNums xs) = some v ∧ Good v (lineEnd (lineB 1 xs ws (p.drop i)))) ∧
    (∀ (k i : Nat) (ws : List ByteArray), p.length - i ≤ m → 6 * m + 8 ≤ k → i ≤ p.length → ws.length ≤ i →
      ∃ v, murmurationref13_line.l0 k p ws (i : Int) = some v ∧ Good v (lineEnd (lineB 0 [] ws (p.drop i)))) := by
  intro m
  induction m using Nat.strongRecOn with
  | _ m ihm =>
    have hL1 : ∀ (k i : Nat) (xs : List Int) (ws : List ByteArray), p.length - i ≤ m → 6 * m + 6 ≤ k → i ≤ p.length → xs.length ≤ i → ws.length ≤ i →
      ∃ v, murmurationref13_line.l1 k p ws (i : Int) (strOfNums xs) = some v ∧ Good v (lineEnd (lineB 1 xs ws (p.drop i))) := by
      intro k i xs ws hm hk hi hx hw
      obtain ⟨k, rfl⟩ : ∃ k1, k = k1 + 1 + 1 + 1 + 1 + 1 := ⟨k - 5, by omega⟩
      simp only [murmurationref13_line.l1]
      cases hd : p.drop i with
      | nil =>
        have hi' := end_drop hd hi
        rw [if_neg (by omega)]
        simp only [murmurationref13_line.j3, Bool.false_eq_true, if_false]
        rw [if_neg (by omega), if_pos (by omega)]
        simp only [murmurationref13_line.l0]
        rw [if_neg (by omega)]
        exact ⟨_, rfl, Good.rfl' _⟩
      | cons c r =>
        obtain ⟨h1, h2, h3, h4, h5⟩ := at_drop hd
        have hc := hb c (List.mem_of_mem_drop (by rw [hd]; exact List.mem_cons_self ..))
        rw [if_pos (by omega), if_pos (by omega), h2]
        by_cases hbl : c = 32 ∨ c = 9
        · -- a blank ends the word
          have hj : ∃ (q : Bool), q = false ∧ (if c = 32 then murmurationref13_line.j3 (k + 1 + 1 + 1 + 1) p ws (i : Int) (strOfNums xs) false else if c = 9 then murmurationref13_line.j3 (k + 1 + 1 + 1 + 1) p ws (i : Int) (strOfNums xs) false else if c = 35 then murmurationref13_line.j3 (k + 1 + 1 + 1 + 1) p ws (i : Int) (strOfNums xs) false else murmurationref13_line.j3 (k + 1 + 1 + 1 + 1) p ws (i : Int) (strOfNums xs) (c != 34)) = murmurationref13_line.j3 (k + 1 + 1 + 1 + 1) p ws (i : Int) (strOfNums xs) q := by
            refine ⟨false, rfl, ?_⟩
            rcases hbl with rfl | rfl
            · rw [if_pos rfl]
            · rw [if_neg (by decide), if_pos rfl]
          obtain ⟨q, rfl, hj⟩ := hj
          rw [hj]
          simp only [murmurationref13_line.j3, Bool.false_eq_true, if_false]
          rw [if_pos (by omega), if_pos (by omega), h2, if_neg (by omega), if_pos (by omega)]
          simp only [murmurationref13_line.l0]
          rw [if_pos (by omega), if_pos (by omega), h2]
          have hj2 : (if c = 32 then murmurationref13_line.j1 (k + 1 + 1) p (ws ++ [strOfNums xs]) (i : Int) true else murmurationref13_line.j1 (k + 1 + 1) p (ws ++ [strOfNums xs]) (i : Int) (c == 9)) = murmurationref13_line.j1 (k + 1 + 1) p (ws ++ [strOfNums xs]) (i : Int) true := by
            rcases hbl with rfl | rfl
            · rw [if_pos rfl]
            · rw [if_neg (by decide), show ((9 : Int) == 9) = true from rfl]
          rw [hj2]
          simp only [murmurationref13_line.j1, if_true]
          rw [wrapN i (by omega)]
          obtain ⟨v, hv, hg⟩ := (ihm (m - 1) (by omega)).2 (k + 1) (i + 1) (ws ++ [strOfNums xs]) (by omega) (by omega) (by omega) (by simp; omega)
          refine ⟨v, hv, ?_⟩
          rw [h3] at hg
          rw [lineB_cons]
          have e : readB 1 xs ws c = some (true, 0, [], ws ++ [strOfNums xs]) := by rcases hbl with rfl | rfl <;> rfl
          rw [e]
          exact hg
        · by_cases h35 : c = 35
          · subst h35
            simp only [murmurationref13_line.j3, Bool.false_eq_true, if_false, show ¬ ((35 : Int) = 32) by decide, show ¬ ((35 : Int) = 9) by decide, if_true]
            rw [if_pos (by omega), if_pos (by omega), h2, if_neg (by decide), if_pos (by omega)]
            simp only [murmurationref13_line.l0]
            rw [if_pos (by omega), if_pos (by omega), h2, if_neg (by decide)]
            simp only [murmurationref13_line.j1, show ((35 : Int) == 9) = false from rfl, Bool.false_eq_true, if_false]
            rw [if_pos (by omega), if_pos (by omega), h2, if_pos rfl]
            refine ⟨_, rfl, ?_⟩
            rw [lineB_cons]
            exact Good.rfl' _
          · rw [if_neg (by omega), if_neg (by omega), if_neg h35]
            by_cases h34 : c = 34
            · subst h34
              simp only [murmurationref13_line.j3, show ((34 : Int) != 34) = false from rfl, Bool.false_eq_true, if_false]
              rw [if_pos (by omega), if_pos (by omega), h2, if_pos rfl]
              refine ⟨_, rfl, Good.no ?_ _⟩
              rw [lineB_cons]
              rfl
            · have hne : (c != 34) = true := by simp [h34]
              rw [hne]
              simp only [murmurationref13_line.j3, if_true]
              rw [if_pos (by omega), if_pos (by omega), h2, ctrl_eq]
              simp only [Option.bind_some]
              rw [lineB_cons, readB_plain 1 (Or.inr rfl) xs ws c hc (by omega) h34]
              by_cases ho : c < 32 ∨ c = 127
              · rw [decide_eq_true ho, if_pos rfl, if_pos ho]
                exact ⟨_, rfl, Good.no rfl _⟩
              · rw [decide_eq_false ho, if_neg (by decide), if_neg ho, wrapN i (by omega)]
                have hcut : ((p.take (((i + 1 : Nat) : Int)).toNat).drop ((i : Nat) : Int).toNat) = [c] := by rw [Int.toNat_natCast, Int.toNat_natCast]; exact h4
                rw [if_pos (by omega), if_pos (by omega), hcut, if_pos (by rw [strOfNums_size, strOfNums_size, List.length_singleton]; omega), strs_snoc]
                obtain ⟨v, hv, hg⟩ := (ihm (m - 1) (by omega)).1 (k + 1 + 1 + 1) (i + 1) (xs ++ [c]) ws (by omega) (by omega) (by omega) (by simp; omega) (by omega)
                refine ⟨v, hv, ?_⟩
                rw [h3] at hg
                exact hg
    refine ⟨hL1, ?_⟩
    intro k i ws hm hk hi hw
    obtain ⟨k, rfl⟩ : ∃ k1, k = k1 + 1 + 1 := ⟨k - 2, by omega⟩
    simp only [murmurationref13_line.l0]
    cases hd : p.drop i with
    | nil =>
      have hi' := end_drop hd hi
      rw [if_neg (by omega)]
      exact ⟨_, rfl, Good.rfl' _⟩
    | cons c r =>
      obtain ⟨h1, h2, h3, h4, h5⟩ := at_drop hd
      have hc := hb c (List.mem_of_mem_drop (by rw [hd]; exact List.mem_cons_self ..))
      rw [if_pos (by omega), if_pos (by omega), h2]
      by_cases hbl : c = 32 ∨ c = 9
      · have hj2 : (if c = 32 then murmurationref13_line.j1 (k + 1) p ws (i : Int) true else murmurationref13_line.j1 (k + 1) p ws (i : Int) (c == 9)) = murmurationref13_line.j1 (k + 1) p ws (i : Int) true := by
          rcases hbl with rfl | rfl
          · rw [if_pos rfl]
          · rw [if_neg (by decide), show ((9 : Int) == 9) = true from rfl]
        rw [hj2]
        simp only [murmurationref13_line.j1, if_true]
        rw [wrapN i (by omega)]
        obtain ⟨v, hv, hg⟩ := (ihm (m - 1) (by omega)).2 k (i + 1) ws (by omega) (by omega) (by omega) (by omega)
        refine ⟨v, hv, ?_⟩
        rw [h3] at hg
        rw [lineB_cons]
        have e : readB 0 [] ws c = some (true, 0, [], ws) := by rcases hbl with rfl | rfl <;> rfl
        rw [e]
        exact hg
      · have hb9 : (c == 9) = false := beq_eq_false_iff_ne.2 (by omega)
        rw [if_neg (by omega), hb9]
        simp only [murmurationref13_line.j1, Bool.false_eq_true, if_false]
        rw [if_pos (by omega), if_pos (by omega), h2]
        by_cases h35 : c = 35
        · subst h35
          rw [if_pos rfl]
          refine ⟨_, rfl, ?_⟩
          rw [lineB_cons]
          exact Good.rfl' _
        · rw [if_neg h35]
          by_cases h34 : c = 34
          · subst h34
            rw [if_pos rfl]
            unfold murmurationref13_quoted.f
            rw [wrapN i (by omega)]
            have hq := quoted_run p hn (m - 1) k (i + 1) [] (by omega) (by omega) (by omega) (by simp)
            rw [h3] at hq
            rw [show (⟨#[]⟩ : ByteArray) = strOfNums [] from rfl, hq]
            have hlq := lineB_quoted r [] ws (fun x hx => hb x (List.mem_of_mem_drop (by rw [hd]; exact List.mem_cons_of_mem _ hx)))
            have e : lineB 0 [] ws (34 :: r) = lineB 2 [] ws r := by
              rw [lineB_cons, show readB 0 [] ws 34 = some (true, 2, [], ws) from rfl]
              simp only [if_true]
            rw [e]
            cases hqr : qrun [] r with
            | none =>
              rw [hqr] at hlq
              simp only [Option.bind_some, Bool.false_eq_true, if_false]
              exact ⟨_, rfl, Good.no hlq _⟩
            | some wr =>
              obtain ⟨wd, r2⟩ := wr
              rw [hqr] at hlq
              simp only at hlq
              rw [hlq]
              obtain ⟨s1, s2, s3⟩ := qrun_suffix r [] wd r2 hqr
              simp only [Option.bind_some]
              cases hok : okBehind r2 with
              | false =>
                simp only [Bool.false_eq_true, if_false]
                exact ⟨_, rfl, Good.no (behind_bad _ _ hok) _⟩
              | true =>
                simp only [if_true]
                rw [if_pos (by omega), behind_ok _ _ hok]
                have hdr : p.drop (p.length - r2.length) = r2 := by
                  rw [show p.length - r2.length = (i + 1) + (r.length - r2.length) by omega, ← List.drop_drop, h3]
                  exact s2
                obtain ⟨v, hv, hg⟩ := (ihm (m - 1) (by omega)).2 k (p.length - r2.length) (ws ++ [strOfNums wd]) (by omega) (by omega) (by omega) (by simp; omega)
                rw [hdr] at hg
                exact ⟨v, hv, hg⟩
          · rw [if_neg h34, show (⟨#[]⟩ : ByteArray) = strOfNums [] from rfl]
            obtain ⟨v, hv, hg⟩ := hL1 k i [] ws hm (by omega) hi (by simp) hw
            refine ⟨v, hv, ?_⟩
            rw [hd, lineB_cons, readB_plain 1 (Or.inr rfl) [] ws c hc (by omega) h34] at hg
            rw [lineB_cons, readB_plain 0 (Or.inl rfl) [] ws c hc (by omega) h34]
            exact hg
end Go.Proofs.YtpnghpmgdekmgaaDoor.Q

import Derived.Test.YtpnghpmgdekmgaaDoorQ0
import Derived.Test.YtpnghpmgdekmgaaDoorShelf
import Derived.Lib.SlSplitV
import Derived.Shelf.Bytes.SlCountOne
import Derived.Lib.Hide
import Derived.Lib.SplitLaws
import Derived.Lib.Walk
import Derived.Deep.LoopGhost
import Derived.Deep.QuietTactic
import Derived.BigQuiet
namespace Go.Proofs.YtpnghpmgdekmgaaDoor.Q
open Go.RowKit Go.Proofs.YtpnghpmgdekmgaaDoorW.PrintWords Go.Proofs.YtpnghpmgdekmgaaDoorW.PrintLast Go.Proofs.YtpnghpmgdekmgaaDoorW.PrintMore
set_option linter.unusedVariables false
set_option linter.unusedSimpArgs false

/-- The lines of a list of bytes: what lies between its 10s. -/
def pieces : List Int → List (List Int)
  | [] => [[]]
  | x :: xs => if x = 10 then [] :: pieces xs else match pieces xs with
    | [] => [[x]]
    | p :: ps => (x :: p) :: ps
/-- The place of the first 10. -/
def ix10 : List Int → Option Nat
  | [] => none
  | x :: xs => if x = 10 then some 0 else (ix10 xs).map (· + 1)
theorem pieces_ne (xs : List Int) : pieces xs ≠ [] := by
  cases xs with
  | nil => simp [pieces]
  | cons x xs =>
    simp only [pieces]
    split
    · simp
    · split <;> simp
theorem pieces_none : ∀ {xs : List Int}, ix10 xs = none → pieces xs = [xs]
  | [], _ => rfl
  | x :: xs, h => by
    simp only [ix10] at h
    split at h
    · cases h
    · rename_i hx
      have h' : ix10 xs = none := by simpa using h
      simp only [pieces]
      rw [if_neg hx, pieces_none h']
theorem pieces_some : ∀ {xs : List Int} {i : Nat}, ix10 xs = some i → i < xs.length ∧ pieces xs = xs.take i :: pieces (xs.drop (i + 1))
  | [], _, h => by cases h
  | x :: xs, i, h => by
    simp only [ix10] at h
    split at h
    · rename_i hx
      obtain rfl := Option.some.inj h
      refine ⟨by simp, ?_⟩
      simp only [pieces]
      rw [if_pos hx]
      rfl
    · rename_i hx
      obtain ⟨j, hj, rfl⟩ := Option.map_eq_some_iff.1 h
      obtain ⟨h1, h2⟩ := pieces_some hj
      refine ⟨by simp; omega, ?_⟩
      simp only [pieces]
      rw [if_neg hx, h2]
      rfl
theorem byte_eq (x : Int) (h0 : 0 ≤ x) (h1 : x < 256) : (UInt8.ofNat x.toNat == (10 : Int).toNat.toUInt8) = decide (x = 10) := by
  have e : ∀ n : Fin 256, (UInt8.ofNat n.val == (10 : Int).toNat.toUInt8) = decide (n.val = 10) := by decide +kernel
  have := e ⟨x.toNat, by omega⟩
  rw [this]
  exact decide_eq_decide.2 (by simp only; omega)
theorem index10 : ∀ (xs : List Int), (∀ x ∈ xs, 0 ≤ x ∧ x < 256) → Lib.indexByte (Lib.bytesOf xs) (10 : Int).toNat.toUInt8 = match ix10 xs with | none => -1 | some i => (i : Int)
  | [], _ => rfl
  | x :: xs, h => by
    have ih := index10 xs (fun y hy => h y (List.mem_cons_of_mem _ hy))
    have hx := h x (List.mem_cons_self ..)
    show Lib.indexByte (_ :: Lib.bytesOf xs) _ = _
    unfold Lib.indexByte
    rw [ih]
    have hb : (x.toNat.toUInt8 == (10 : Int).toNat.toUInt8) = decide (x = 10) := byte_eq x hx.1 hx.2
    simp only [ix10]
    by_cases h10 : x = 10
    · subst h10; rfl
    · rw [if_neg h10]
      have hb' : ¬ ((x.toNat.toUInt8 == (10 : Int).toNat.toUInt8) = true) := by rw [hb]; simp [h10]
      rw [show (if (x.toNat.toUInt8 == (10 : Int).toNat.toUInt8) = true then (0 : Int) else _) = _ from if_neg hb']
      cases hq : ix10 xs with
      | none => rfl
      | some i =>
        simp only [Option.map_some]
        have : ¬ (((i : Int) == -1) = true) := fun e => by have := beq_iff_eq.1 e; omega
        rw [if_neg this]
        rfl
theorem count10 : ∀ (xs : List Int), (∀ x ∈ xs, 0 ≤ x ∧ x < 256) → Lib.countByte (Lib.bytesOf xs) (10 : Int).toNat.toUInt8 + 1 = (pieces xs).length
  | [], _ => rfl
  | x :: xs, h => by
    have ih := count10 xs (fun y hy => h y (List.mem_cons_of_mem _ hy))
    have hx := h x (List.mem_cons_self ..)
    have hb : (x.toNat.toUInt8 == (10 : Int).toNat.toUInt8) = decide (x = 10) := byte_eq x hx.1 hx.2
    unfold Lib.countByte at *
    show List.count _ (x.toNat.toUInt8 :: Lib.bytesOf xs) + 1 = _
    rw [List.count_cons, hb]
    simp only [pieces]
    by_cases h10 : x = 10
    · subst h10
      simp only [decide_true, if_true, List.length_cons]
      omega
    · simp only [h10, decide_false, if_false, Bool.false_eq_true]
      have hne := pieces_ne xs
      revert ih hne
      cases pieces xs with
      | nil => intro _ h; exact absurd rfl h
      | cons p ps => intro ih _; simpa using ih
theorem pieces_len_le (xs : List Int) : (pieces xs).length ≤ xs.length + 1 := by
  induction xs with
  | nil => simp [pieces]
  | cons x xs ih =>
    simp only [pieces]
    split
    · simp; omega
    · split
      · simp
      · rename_i p ps hp
        rw [hp] at ih
        simp at ih ⊢
        omega

/-- A value that is a slice with these bytes. -/
def PieceAt (w : World) (v : Value) (p : List Int) : Prop := ∃ A c, v = .slice A p.length c ∧ p.length ≤ c ∧ ReadsInt w .u8 A p.length p
def PsAt (w : World) : List Value → List (List Int) → Prop
  | [], [] => True
  | v :: vs, p :: ps => PieceAt w v p ∧ PsAt w vs ps
  | _, _ => False
theorem PsAt.len {w : World} : ∀ {vs : List Value} {ps : List (List Int)}, PsAt w vs ps → vs.length = ps.length
  | [], [], _ => rfl
  | _ :: _, _ :: _, h => by simp [PsAt.len h.2]
  | [], _ :: _, h => h.elim
  | _ :: _, [], h => h.elim
theorem PsAt.snoc {w : World} {v : Value} {p : List Int} : ∀ {vs : List Value} {ps : List (List Int)}, PsAt w vs ps → PieceAt w v p → PsAt w (vs ++ [v]) (ps ++ [p])
  | [], [], _, h => ⟨h, trivial⟩
  | _ :: _, _ :: _, h, h' => ⟨h.1, PsAt.snoc h.2 h'⟩
  | [], _ :: _, h, _ => h.elim
  | _ :: _, [], h, _ => h.elim
theorem PsAt.get {w : World} : ∀ {vs : List Value} {ps : List (List Int)} (j : Nat), PsAt w vs ps → j < ps.length → ∃ v p, vs[j]? = some v ∧ ps[j]? = some p ∧ PieceAt w v p
  | [], [], j, _, hj => by simp at hj
  | v :: _, p :: _, 0, h, _ => ⟨v, p, rfl, rfl, h.1⟩
  | _ :: vs, _ :: ps, j + 1, h, hj => by
    obtain ⟨v, p, h1, h2, h3⟩ := PsAt.get (vs := vs) (ps := ps) j h.2 (by simpa using hj)
    exact ⟨v, p, by simpa using h1, by simpa using h2, h3⟩
  | [], _ :: _, _, h, _ => h.elim
  | _ :: _, [], _, h, _ => h.elim
theorem PieceAt.below {w w' : World} {v : Value} {p : List Int} (h : PieceAt w v p) (hb : Below w.heap.size w w') : PieceAt w' v p := by
  obtain ⟨A, c, e, h1, h2⟩ := h
  exact ⟨A, c, e, h1, h2.below hb⟩

theorem info22 : (Tryd.prog.info? 22).map (fun i => (i.zero, i.size, i.bytes)) = some (some (.slice none 0 0), 1, 24) := by kernel_rfl
/-- Where the rest of a slice lies. -/
theorem rest_cells {w : World} {a : Addr} {zs : List Int} {ln : Nat} (hz : zs.length = ln) (hc : ∀ i, i < ln → w.cell? (a.add i) = some (.int .u8 (zs.getD i 0))) (k : Nat) (hk : k + 1 ≤ ln) (cap : Nat) (hcp : ln ≤ cap) :
    ∀ i, i < ln - (k + 1) → w.cell? ((if cap = k + 1 then a else a.add (k + 1)).add i) = some (.int .u8 ((zs.drop (k + 1)).getD i 0)) := by
  intro i hi
  rw [if_neg (by omega), show (a.add (k + 1)).add i = a.add (k + 1 + i) from Lib.add_add' a (k + 1) i (by omega), hc _ (by omega)]
  simp [List.getD, List.getElem?_drop]
theorem reads_of_cells {w : World} {a : Addr} {zs : List Int} {ln : Nat} (hz : zs.length = ln) (hs : ln < 4294967281) (hc : ∀ i, i < ln → w.cell? (a.add i) = some (.int .u8 (zs.getD i 0))) (m : Nat) (hm : m ≤ ln) : PieceAt w (.slice (some a) m m) (zs.take m) := by
  have hl : (zs.take m).length = m := by rw [List.length_take]; omega
  refine ⟨some a, m, by rw [hl], by rw [hl]; exact Nat.le_refl _, rfl, by rw [hl]; omega, fun _ => ⟨a, rfl, fun j hj => ?_⟩⟩
  rw [hl] at hj
  rw [hc j (by omega), List.getD_eq_getElem?_getD, List.getD_eq_getElem?_getD, List.getElem?_take, if_pos hj]
theorem reads_whole {w : World} {a : Addr} {zs : List Int} {ln cap : Nat} (hz : zs.length = ln) (hs : ln < 4294967281) (hc : ∀ i, i < ln → w.cell? (a.add i) = some (.int .u8 (zs.getD i 0))) (hm : ln ≤ cap) : PieceAt w (.slice (some a) ln cap) zs := by
  subst hz
  exact ⟨some a, cap, rfl, hm, rfl, by omega, fun _ => ⟨a, rfl, hc⟩⟩

/-- What holds at a round's head: what is done, and what is left. -/
def SplitRel (w : World) (xs : List Int) (N : Nat) (done : List Value) (zs : List Int) (a : Addr) : Prop :=
  ∃ dp, PsAt w done dp ∧ dp ++ pieces zs = pieces xs ∧ (∀ x ∈ zs, 0 ≤ x ∧ x < 256) ∧ (∀ i, i < zs.length → w.cell? (a.add i) = some (.int .u8 (zs.getD i 0)))
theorem SplitRel.end {w : World} {xs : List Int} {N : Nat} {done : List Value} {zs : List Int} {a : Addr} {ln cap : Nat} (h : SplitRel w xs N done zs a) (hN : (pieces xs).length = N) (hz : zs.length = ln) (hs : ln < 4294967281) (hm : ln ≤ cap) (h1 : pieces zs = [zs]) :
    done.length + 1 = N ∧ PsAt w (done ++ [.slice (some a) ln cap]) (pieces xs) := by
  obtain ⟨dp, h2, h3, h4, h5⟩ := h
  rw [h1] at h3
  have hp := PsAt.snoc h2 (reads_whole hz hs (by rw [← hz]; exact h5) hm)
  rw [h3] at hp
  exact ⟨by have := hp.len; rw [hN] at this; simpa using this, hp⟩
theorem SplitRel.one {w : World} {xs : List Int} {N : Nat} {done : List Value} {zs : List Int} {a : Addr} (h : SplitRel w xs N done zs a) (hN : (pieces xs).length = N) (hd : ¬ done.length < N - 1) (hl : done.length ≤ N - 1) : pieces zs = [zs] := by
  obtain ⟨dp, h2, h3, h4, h5⟩ := h
  have hl2 := congrArg List.length h3
  rw [List.length_append, hN] at hl2
  have := h2.len
  cases hq : ix10 zs with
  | none => exact pieces_none hq
  | some i =>
    obtain ⟨_, e⟩ := pieces_some hq
    rw [e] at hl2
    have := pieces_ne (zs.drop (i + 1))
    have : 0 < (pieces (zs.drop (i + 1))).length := List.length_pos_iff.2 this
    simp only [List.length_cons] at hl2
    omega
theorem SplitRel.next {w : World} {xs : List Int} {N : Nat} {done : List Value} {zs : List Int} {a : Addr} {ln cap i : Nat} (h : SplitRel w xs N done zs a) (hN : (pieces xs).length = N) (hz : zs.length = ln) (hs : ln < 4294967281) (hm : ln ≤ cap) (hi : ix10 zs = some i) :
    SplitRel w xs N (done ++ [.slice (some a) i i]) (zs.drop (i + 1)) (if cap = i + 1 then a else a.add (i + 1)) := by
  obtain ⟨dp, h2, h3, h4, h5⟩ := h
  obtain ⟨hlt, e⟩ := pieces_some hi
  refine ⟨dp ++ [zs.take i], h2.snoc (reads_of_cells hz hs (by rw [← hz]; exact h5) i (by omega)), by rw [List.append_assoc, ← h3, e]; rfl, fun x hx => h4 x (List.mem_of_mem_drop hx), ?_⟩
  have := rest_cells (cap := cap) hz (by rw [← hz]; exact h5) i (by omega) hm
  rw [List.length_drop, hz]
  exact this
theorem SplitRel.lt {w : World} {xs : List Int} {N : Nat} {done : List Value} {zs : List Int} {a : Addr} (h : SplitRel w xs N done zs a) (hN : (pieces xs).length = N) : done.length + 1 ≤ N := by
  obtain ⟨dp, h2, h3, _⟩ := h
  have hl2 := congrArg List.length h3
  rw [List.length_append, hN] at hl2
  have := h2.len
  have : 0 < (pieces zs).length := List.length_pos_iff.2 (pieces_ne zs)
  omega

set_option maxHeartbeats 8000000 in
set_option maxRecDepth 1000000 in
theorem genSplit_some (a1 : Addr) (n c1 b2 o2 d : Nat) (xs : List Int) (w : World) (hx : xs.length = n) (hr1 : ∀ x ∈ xs, 0 ≤ x ∧ x < 256) (hc1 : ∀ i, i < n → w.cell? (a1.add i) = some (.int .u8 (xs.getD i 0))) (hcap : n ≤ c1) (hs : n < 4294967281) (hc2 : w.cell? ⟨b2, o2, none⟩ = some (.int .u8 10)) :
    Calls Tryd.prog 16 #[.slice (some a1) n c1, .slice (some ⟨b2, o2, none⟩) 1 d, .int .i64 0, .int .i64 (-1)] w fun e w' => e = .returned (.slice (some ⟨w.heap.size, 0, none⟩) (pieces xs).length (pieces xs).length) ∧ ∃ vs : List Value, w' = w.alloc (.cells vs.toArray 22) ∧ PsAt w vs (pieces xs) := by
  obtain ⟨N, hN⟩ : ∃ N, (pieces xs).length = N := ⟨_, rfl⟩
  have hC := Tryd.bytes_Count_one_at a1 n c1 b2 o2 d xs 10 w hx hc1 hc2
  have hcn := count10 xs hr1
  have hNn := pieces_len_le xs
  rw [hN] at hcn hNn ⊢
  obtain ⟨cn, hcn'⟩ : ∃ cn : Nat, Lib.countByte (Lib.bytesOf xs) (10 : Int).toNat.toUInt8 = cn := ⟨_, rfl⟩
  rw [hcn'] at hC hcn
  clear hcn'
  have hR0 : SplitRel w xs N [] xs a1 := ⟨[], trivial, rfl, hr1, by rw [hx]; exact hc1⟩
  have HR0 := Lib.hid hR0
  have HN := Lib.hid hN
  have HC := Lib.hid hC
  have HX := Lib.hid hx
  clear hR0 hN hC hr1 hc1
  have hmin : min ((cn : Int) + 1) ((n : Int) + 1) = (N : Int) := by rw [Int.min_eq_left (by omega)]; omega
  have hmk := run_make_row' (P := Tryd.prog) 36 22 (.slice none 0 0) 24 Tryd.underlying36 info22 rfl .i64 .i64 N (by omega) (by omega)
  have hN1 : 1 ≤ N := by omega
  go_enter Tryd.func16, Tryd.ntmps16
  go_wp2_with (first | (go_at_call 24; refine HC.out.mono ?_; rintro e w1 ⟨rfl, hw⟩; replace hw := hw.symm; subst hw))
  clear hmk
  go_loopg [0, 10] (N - 1) (fun g s0 s10 wr => ∃ (done : List Value) (a : Addr) (zs : List Int) (ln cap : Nat), s0 = .slice (some a) ln cap ∧ s10 = .int .i64 done.length ∧ done.length ≤ N - 1 ∧ g = N - 1 - done.length ∧ ln ≤ cap ∧ ln ≤ n ∧ wr = w.alloc (.cells (Lib.cellsOfV done N) 22) ∧ Aside0 (zs.length = ln ∧ SplitRel w xs N done zs a))
  case atStart => exact ⟨[], a1, xs, n, c1, rfl, rfl, Nat.zero_le _, rfl, hcap, Nat.le_refl _, by rw [Lib.cellsOfV_nil], ⟨HX.out, HR0.out⟩⟩
  case round =>
    obtain ⟨done, a, zs, ln, cap, rfl, rfl, hd, rfl, hcp, hln, rfl, A⟩ := hrel
    have hnext : (Lib.cellsOfV done N)[done.length]? = some (.slice none 0 0) := Lib.cellsOfV_next (by omega)
    have hset := fun v => Lib.cellsOfV_set (done := done) (N := N) (by omega) v
    have HSET := Lib.hid hset
    clear hset HC HR0 HX
    have hA2 := A.out.2
    have hz := A.out.1
    have hr := hA2
    obtain ⟨dp, q1, q2, q3, q4⟩ := hr
    have hI := fun (W : World) (hW : ∀ (p : Addr) (v : Value), w.cell? p = some v → W.cell? p = some v) => Tryd.bytes_Index_one_at a ln cap b2 o2 d zs 10 W hz (by rw [← hz]; intro i hi; exact hW _ _ (q4 i hi)) (hW _ _ hc2)
    rw [index10 zs q3] at hI
    have hI' := hI (w.alloc (.cells (Lib.cellsOfV done N) 22)) (fun p v h => pw_cell_below (below_alloc (Below.refl _ _) _) h)
    clear hI q1 q2 q3 q4
    have HA := Lib.hid hA2
    have HZ := Lib.hid hz
    clear hA2 hz A
    by_cases hlt : done.length < N - 1
    · have hltz : ((done.length : Nat) : Int) < (N : Int) - 1 := by omega
      cases hq : ix10 zs with
      | none =>
        rw [hq] at hI'
        have HI := Lib.hid hI'
        clear hI'
        have HE := Lib.hid (HA.out.end HN.out HZ.out (by omega) hcp (pieces_none hq))
        go_wp2_with (first | (go_at_call 25; refine HI.out.mono ?_; rintro e w1 ⟨rfl, hw⟩; replace hw := hw.symm; subst hw))
        go_ret
        obtain ⟨f1, f2⟩ := HE.out
        exact ⟨by rw [f1]; rfl, _, by rw [HSET.out, ← f1, show done.length + 1 = (done ++ [Value.slice (some a) ln cap]).length by simp, Lib.cellsOfV_full], f2⟩
      | some i =>
        rw [hq] at hI'
        have HI := Lib.hid hI'
        clear hI'
        have hi := (pieces_some hq).1
        rw [HZ.out] at hi
        have HNX := Lib.hid (HA.out.next HN.out HZ.out (by omega) hcp hq)
        have c0 : ¬ ((i : Int) < 0) := by omega
        have c1' : (0 : Int) ≤ (i : Int) + 0 := by omega
        have c2' : ((i : Int) + 0) ≤ (cap : Int) := by omega
        have c3 : (0 : Int) ≤ (i : Int) + 1 := by omega
        have c4 : ((i : Int) + 1) ≤ (ln : Int) := by omega
        by_cases hce : cap = i + 1
        · subst hce
          rw [if_pos rfl] at HNX
          go_wp2_with (first | (go_at_call 25; refine HI.out.mono ?_; rintro e w1 ⟨rfl, hw⟩; replace hw := hw.symm; subst hw))
          go_roundg (N - 1 - (done.length + 1))
          case measure => omega
          case rel =>
            refine ⟨done ++ [.slice (some a) i i], a, zs.drop (i + 1), ln - (i + 1), i + 1 - (i + 1), by first | rfl | (simp; omega) | simp, by simp, by simp; omega, by simp, by omega, by omega, by first | rw [← HSET.out] | (rw [← HSET.out]; simp), ⟨by rw [List.length_drop, HZ.out], HNX.out⟩⟩
        · rw [if_neg hce] at HNX
          go_wp2_with (first | (go_at_call 25; refine HI.out.mono ?_; rintro e w1 ⟨rfl, hw⟩; replace hw := hw.symm; subst hw))
          go_roundg (N - 1 - (done.length + 1))
          case measure => omega
          case rel =>
            refine ⟨done ++ [.slice (some a) i i], a.add (i + 1), zs.drop (i + 1), ln - (i + 1), cap - (i + 1), by first | rfl | simp [hce], by simp, by simp; omega, by simp, by omega, by omega, by first | rw [← HSET.out] | (rw [← HSET.out]; simp), ⟨by rw [List.length_drop, HZ.out], HNX.out⟩⟩
    · have hltz : ¬ (((done.length : Nat) : Int) < (N : Int) - 1) := by omega
      clear hI'
      have HE := Lib.hid (HA.out.end HN.out HZ.out (by omega) hcp (HA.out.one HN.out hlt hd))
      go_wp2
      go_ret
      obtain ⟨f1, f2⟩ := HE.out
      exact ⟨by rw [f1]; rfl, _, by rw [HSET.out, ← f1, show done.length + 1 = (done ++ [Value.slice (some a) ln cap]).length by simp, Lib.cellsOfV_full], f2⟩

set_option maxHeartbeats 4000000 in
theorem count_nil (c0 b2 o2 d : Nat) (w : World) (hc2 : w.cell? ⟨b2, o2, none⟩ = some (.int .u8 10)) :
    Calls Tryd.prog 24 #[.slice none 0 c0, .slice (some ⟨b2, o2, none⟩) 1 d] w fun e w' => e = .returned (.int .i64 0) ∧ w' = w := by
  go_enter Tryd.func24, Tryd.ntmps24
  go_wp2
  rw [run_callFunc_extern Tryd.func33 (by kernel_rfl) (by kernel_rfl) (by kernel_rfl) (e := Extern.BytealgCount.count) (by kernel_rfl), Lib.run_countNil w 0 c0 10]
  simp only [Result.andThen]
  rw [Oper.upon_value]
  go_wp2
  go_ret
  exact ⟨rfl, rfl⟩
set_option maxHeartbeats 4000000 in
theorem genSplit_nil (c0 b2 o2 d : Nat) (w : World) (hc2 : w.cell? ⟨b2, o2, none⟩ = some (.int .u8 10)) :
    Calls Tryd.prog 16 #[.slice none 0 c0, .slice (some ⟨b2, o2, none⟩) 1 d, .int .i64 0, .int .i64 (-1)] w fun e w' => e = .returned (.slice (some ⟨w.heap.size, 0, none⟩) 1 1) ∧ w' = w.alloc (.cells #[.slice none 0 c0] 22) := by
  have hC := Lib.hid (count_nil c0 b2 o2 d w hc2)
  have hmk := run_make_row' (P := Tryd.prog) 36 22 (.slice none 0 0) 24 Tryd.underlying36 info22 rfl .i64 .i64 1 (by omega) (by omega)
  rw [show madeCells #[Value.slice none 0 0] 1 = #[.slice none 0 0] by rw [← Lib.cellsOfV_nil]; rfl] at hmk
  replace hmk : ∀ W : World, (Instr.makeSlice 36 (.int .i64 1) (.int .i64 1)).run Tryd.prog W = .ok (.slice (some ⟨W.heap.size, 0, none⟩) 1 1) (W.alloc (.cells #[.slice none 0 0] 22)) := hmk
  go_enter Tryd.func16, Tryd.ntmps16
  go_wp2_with (first | (go_at_call 24; refine hC.out.mono ?_; rintro e w1 ⟨rfl, hw⟩; replace hw := hw.symm; subst hw))
  go_loopg [0, 10] 0 (fun g s0 s10 wr => s0 = .slice none 0 c0 ∧ s10 = .int .i64 0 ∧ wr = w.alloc (.cells #[.slice none 0 0] 22))
  case atStart => exact ⟨rfl, rfl, rfl⟩
  case round =>
    obtain ⟨rfl, rfl, rfl⟩ := hrel
    go_wp2
    go_ret
    exact ⟨rfl, rfl⟩

set_option maxHeartbeats 4000000 in
/-- bytes.Split of any slice of bytes at a 10. -/
theorem split_calls (A0 : Option Addr) (c0 b2 o2 d : Nat) (xs : List Int) (w : World) (hr : ReadsInt w .u8 A0 xs.length xs) (hr1 : ∀ x ∈ xs, 0 ≤ x ∧ x < 256) (hcap : xs.length ≤ c0) (hs : xs.length < 4294967281) (hc2 : w.cell? ⟨b2, o2, none⟩ = some (.int .u8 10)) :
    Calls Tryd.prog 12 #[.slice A0 xs.length c0, .slice (some ⟨b2, o2, none⟩) 1 d] w fun e w' => e = .returned (.slice (some ⟨w.heap.size, 0, none⟩) (pieces xs).length (pieces xs).length) ∧ ∃ vs : List Value, w' = w.alloc (.cells vs.toArray 22) ∧ PsAt w vs (pieces xs) := by
  cases A0 with
  | none =>
    have hx : xs = [] := List.length_eq_zero_iff.1 (by
      cases xs with
      | nil => rfl
      | cons x xs => obtain ⟨ad, e, _⟩ := hr.2.2 (by simp); cases e)
    subst hx
    have HG := Lib.hid (genSplit_nil c0 b2 o2 d w hc2)
    show Calls Tryd.prog 12 #[.slice none 0 c0, .slice (some ⟨b2, o2, none⟩) 1 d] w _
    go_enter Tryd.func12, Tryd.ntmps12
    go_wp2_with (first | (go_at_call 16; refine HG.out.mono ?_; rintro e w1 ⟨rfl, rfl⟩))
    go_ret
    exact ⟨rfl, [.slice none 0 c0], rfl, ⟨none, c0, rfl, Nat.zero_le _, ReadsInt.nil _ _⟩, trivial⟩
  | some a1 =>
    have hc : ∀ i, i < xs.length → w.cell? (a1.add i) = some (.int .u8 (xs.getD i 0)) := fun i hi => by
      obtain ⟨ad, e, hc⟩ := hr.2.2 (by omega)
      obtain rfl := Option.some.inj e
      exact hc i hi
    have hG := genSplit_some a1 xs.length c0 b2 o2 d xs w rfl hr1 hc hcap hs hc2
    have HG := Lib.hid hG
    clear hG hr hr1 hc
    go_enter Tryd.func12, Tryd.ntmps12
    go_wp2_with (first | (go_at_call 16; refine HG.out.mono ?_; rintro e w1 ⟨rfl, vs, hw, hp⟩; have HP := Lib.hid hp; clear hp))
    go_ret
    exact ⟨rfl, vs, rfl, HP.out⟩
end Go.Proofs.YtpnghpmgdekmgaaDoor.Q

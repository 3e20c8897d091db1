import Derived.Test.YtpnghpmgdekmgaaDoorQ0
import Derived.Test.YtpnghpmgdekmgaaDoorShelf
import Derived.Lib.Builder
import Derived.Lib.UnsafeStr
import Derived.Laws.Externs
import Derived.Lib.Hide
import Derived.Outline
import Derived.Deep.RegionLaw
import Derived.RegionTactic
import Derived.ChangeAlike
namespace Go.Proofs.YtpnghpmgdekmgaaDoor.Q
open Go.RowKit Go.Proofs.YtpnghpmgdekmgaaDoorW.PrintWords Go.Proofs.YtpnghpmgdekmgaaDoorW.PrintLast Go.Proofs.YtpnghpmgdekmgaaDoorW.PrintMore
set_option linter.unusedVariables false
set_option linter.unusedSimpArgs false

/-- From w to w': the blocks that S doesn't name are as they were. -/
structure Ext (S : Nat → Prop) (w w' : World) : Prop where
  os : w'.os = w.os
  tape : w'.tape = w.tape
  output : w'.output = w.output
  size : w.heap.size ≤ w'.heap.size
  block : ∀ i, i < w.heap.size → ¬ S i → w'.heap[i]? = w.heap[i]?
theorem Ext.refl (S : Nat → Prop) (w : World) : Ext S w w := ⟨rfl, rfl, rfl, Nat.le_refl _, fun _ _ _ => rfl⟩
theorem Ext.trans {S : Nat → Prop} {a b c : World} (h : Ext S a b) (k : Ext S b c) : Ext S a c :=
  ⟨k.os.trans h.os, k.tape.trans h.tape, k.output.trans h.output, Nat.le_trans h.size k.size, fun i hi hs => (k.block i (Nat.lt_of_lt_of_le hi h.size) hs).trans (h.block i hi hs)⟩
theorem Ext.mono {S S' : Nat → Prop} {a b : World} (h : Ext S a b) (hs : ∀ i, i < a.heap.size → S i → S' i) : Ext S' a b :=
  ⟨h.os, h.tape, h.output, h.size, fun i hi hn => h.block i hi (fun k => hn (hs i hi k))⟩
theorem Ext.drewN {S : Nat → Prop} {a b : World} (h : Ext S a b) (n : Nat) : Ext S a (b.drewN n) := ⟨h.os, h.tape, h.output, h.size, h.block⟩
theorem Ext.drew {S : Nat → Prop} {a b : World} (h : Ext S a b) : Ext S a b.drew := ⟨h.os, h.tape, h.output, h.size, h.block⟩
theorem Ext.alloc {S : Nat → Prop} {a b : World} (h : Ext S a b) (o : Obj) : Ext S a (b.alloc o) :=
  ⟨h.os, h.tape, h.output, by simp; have := h.size; omega, fun i hi hs => by
    rw [← h.block i hi hs]
    have : i < b.heap.size := Nat.lt_of_lt_of_le hi h.size
    show (b.heap.push o)[i]? = _
    rw [Array.getElem?_push, if_neg (by omega)]⟩
theorem Ext.setCell {S : Nat → Prop} {a b : World} (h : Ext S a b) {p : Addr} (hp : S p.block) (v : Value) : Ext S a (b.setCell p v) :=
  ⟨h.os, h.tape, h.output, by simp [World.setCell]; exact h.size, fun i hi hs => (Below.heap_setCell b p v i (fun e => hs (e ▸ hp))).trans (h.block i hi hs)⟩
theorem Ext.grown {S : Nat → Prop} {a b c : World} (h : Ext S a b) {row : Option Nat} (hg : b.grownBy c row) (hr : ∀ k, row = some k → S k) : Ext S a c :=
  ⟨hg.os.trans h.os, hg.tape.trans h.tape, hg.output.trans h.output, Nat.le_trans h.size hg.size, fun i hi hs => (hg.block i (Nat.lt_of_lt_of_le hi h.size) (fun e => hs (hr i e.symm))).trans (h.block i hi hs)⟩
theorem Ext.freeze {S : Nat → Prop} {a b : World} (h : Ext S a b) {p : Addr} (hp : S p.block) (n : Nat) : Ext S a (b.freeze p n) := by
  unfold World.freeze
  split
  · exact h
  · exact ⟨h.os, h.tape, h.output, by simpa using h.size, fun i hi hs => by
      rw [← h.block i hi hs]
      simp only [Array.getElem?_modify]
      rw [if_neg (fun e : p.block = i => hs (e ▸ hp))]⟩
theorem Ext.below {B : Nat} {S : Nat → Prop} {a b : World} (h : Ext S a b) (hB : B ≤ a.heap.size) (hs : ∀ i, i < B → ¬ S i) : Below B a b :=
  ⟨h.os, h.tape, h.output, h.size, fun i hi => h.block i (by omega) (hs i hi)⟩

/-- A block whole. -/
def Blk (w : World) (g : Nat) (cs : Array Value) (t : Nat) : Prop := w.heap[g]? = some (.cells cs t (0, 0))
theorem Blk.cell {w : World} {g t : Nat} {cs : Array Value} (h : Blk w g cs t) (j : Nat) : w.cell? ⟨g, j, none⟩ = cs[j]? := by simp [World.cell?, show w.heap[g]? = _ from h]
theorem Blk.frozen {w : World} {g t : Nat} {cs : Array Value} (h : Blk w g cs t) (j : Nat) : w.frozen? ⟨g, j, none⟩ = false := by simp [World.frozen?, show w.heap[g]? = _ from h]
theorem Blk.set {w : World} {g t : Nat} {cs : Array Value} (h : Blk w g cs t) (j : Nat) (v : Value) : Blk (w.setCell ⟨g, j, none⟩ v) g (cs.setIfInBounds j v) t := by
  unfold Blk World.setCell
  simp [Array.getElem?_modify, show w.heap[g]? = _ from h]
theorem Blk.lt {w : World} {g t : Nat} {cs : Array Value} (h : Blk w g cs t) : g < w.heap.size := by
  rcases Nat.lt_or_ge g w.heap.size with h' | h'
  · exact h'
  · have : w.heap[g]? = none := Array.getElem?_eq_none h'
    rw [show w.heap[g]? = _ from h] at this
    cases this
theorem Blk.shape {w : World} {g t : Nat} {cs : Array Value} (h : Blk w g cs t) : w.shape? g = some (t, cs.size) := by simp [World.shape?, show w.heap[g]? = _ from h]
theorem Blk.alloc {w : World} {g t : Nat} {cs : Array Value} (h : Blk w g cs t) (o : Obj) : Blk (w.alloc o) g cs t := (heap_alloc_old w o h.lt).trans h
theorem Blk.grown {w w' : World} {g t : Nat} {cs : Array Value} {row : Option Nat} (h : Blk w g cs t) (hg : w.grownBy w' row) (hr : row ≠ some g) : Blk w' g cs t := (hg.block g h.lt (fun e => hr e.symm)).trans h
theorem Blk.ext {w w' : World} {g t : Nat} {cs : Array Value} {S : Nat → Prop} (h : Blk w g cs t) (he : Ext S w w') (hs : ¬ S g) : Blk w' g cs t := (he.block g h.lt hs).trans h
/-- What is owned is no block of another type. -/
theorem own_ne {w : World} {B e t g : Nat} {v : Value} {n : Nat} {xs : List Value} {cs : Array Value} (ho : w.ownsRow B e 1 v n xs) (h : Blk w g cs t) (hne : e ≠ t) : v.ownBlock ≠ some g := by
  intro hk
  obtain ⟨cells, hc⟩ := own_typed ho g hk
  rw [show w.heap[g]? = _ from h] at hc
  injection hc with hc
  injection hc with _ hc
  exact hne hc.symm
theorem own_ext {w w' : World} {B e : Nat} {v : Value} {n : Nat} {xs : List Value} {S : Nat → Prop} (ho : w.ownsRow B e 1 v n xs) (he : Ext S w w') (hs : ∀ k, v.ownBlock = some k → ¬ S k) : w'.ownsRow B e 1 v n xs :=
  own_move ho (fun k hk => he.block k (own_lt ho k hk) (hs k hk))

/-! ### copyCheck, Reset -/
theorem addrB (g : Nat) : (⟨g, 1, none⟩ : Addr).block = g := rfl
theorem lies45 (c : Nat) : c = 4 → liesAt Tryd.prog Tryd.prog.depth 47 (c / Tryd.prog.cellsOf 47) 1 45 1 = true := by
  rintro rfl; kernel_rfl
theorem size45 : (Tryd.prog.info? 45).map (·.size) = some 2 := by kernel_rfl

set_option maxHeartbeats 1000000 in
theorem copyCheck_fresh (g : Nat) (w : World) (st bv wv : Value) (h : Blk w g #[st, .pointer none, bv, wv] 47) :
    Calls Tryd.prog 39 #[.pointer (some ⟨g, 1, none⟩)] w fun e w' => e = .returned (.tuple #[]) ∧ w' = w.setCell ⟨g, 1, none⟩ (.pointer (some ⟨g, 1, none⟩)) := by
  obtain ⟨j, hj, hjs⟩ := Option.map_eq_some_iff.1 size45
  have c1 : w.cell? ⟨g, 1, none⟩ = some (.pointer none) := h.cell 1
  have f1 := h.frozen 1
  have hsh : w.shape? (⟨g, 1, none⟩ : Addr).block = some (47, 4) := h.shape
  clear h
  go_enter Tryd.func39, Tryd.ntmps39
  go_wp2
  rw [Lib.run_to_unsafe w ⟨g, 1, none⟩ Tryd.underlying43 Tryd.underlying80 hj (by rw [hjs]; decide) hsh (show 1 < 4 by decide)]
  simp only [Result.andThen]
  rw [Oper.upon_value]
  go_wp2
  rw [run_callFunc_extern Tryd.func45 (by kernel_rfl) (by kernel_rfl) (by kernel_rfl) (e := Extern.AbiNoEscape.same) (by kernel_rfl)]
  rw [Lib.run_noEscape]
  simp only [Result.andThen]
  rw [Oper.upon_value]
  go_wp2
  rw [Lib.run_from_unsafe w ⟨g, 1, none⟩ Tryd.underlying80 Tryd.underlying43 hj hsh (lies45 4 rfl)]
  simp only [Result.andThen]
  rw [Oper.upon_value]
  go_wp2
  go_end0
  exact ⟨rfl, rfl⟩

set_option maxHeartbeats 1000000 in
theorem copyCheck_used (g : Nat) (w : World) (st bv wv : Value) (h : Blk w g #[st, .pointer (some ⟨g, 1, none⟩), bv, wv] 47) :
    Calls Tryd.prog 39 #[.pointer (some ⟨g, 1, none⟩)] w fun e w' => e = .returned (.tuple #[]) ∧ w' = w := by
  obtain ⟨j, hj, hjs⟩ := Option.map_eq_some_iff.1 size45
  have c1 : w.cell? ⟨g, 1, none⟩ = some (.pointer (some ⟨g, 1, none⟩)) := h.cell 1
  clear h
  go_enter Tryd.func39, Tryd.ntmps39
  go_wp2
  rw [Lib.run_neq_ptr_same w _ Tryd.underlying43 hj]
  go_wp2
  go_end0
  exact ⟨rfl, rfl⟩

theorem copyCheck_calls (g : Nat) (w : World) (st bv wv : Value) (ad : Option Addr) (h : Blk w g #[st, .pointer ad, bv, wv] 47) (ha : ad = none ∨ ad = some ⟨g, 1, none⟩) :
    Calls Tryd.prog 39 #[.pointer (some ⟨g, 1, none⟩)] w fun e w' => e = .returned (.tuple #[]) ∧ Blk w' g #[st, .pointer (some ⟨g, 1, none⟩), bv, wv] 47 ∧ Ext (· = g) w w' := by
  rcases ha with rfl | rfl
  · refine (copyCheck_fresh g w st bv wv h).mono ?_
    rintro e w' ⟨rfl, rfl⟩
    exact ⟨rfl, h.set 1 _, (Ext.refl (· = g) w).setCell (p := ⟨g, 1, none⟩) rfl _⟩
  · refine (copyCheck_used g w st bv wv h).mono ?_
    rintro e w' ⟨rfl, rfl⟩
    exact ⟨rfl, h, Ext.refl _ _⟩

theorem reset_calls (g : Nat) (w : World) (st bv wv : Value) (ad : Option Addr) (h : Blk w g #[st, .pointer ad, bv, wv] 47) :
    Calls Tryd.prog 30 #[.pointer (some ⟨g, 1, none⟩)] w fun e w' => e = .returned (.tuple #[]) ∧ Blk w' g #[st, .pointer none, .slice none 0 0, wv] 47 ∧ Ext (· = g) w w' := by
  have c1 : w.cell? ⟨g, 1, none⟩ = some (.pointer ad) := h.cell 1
  have c2 : w.cell? ⟨g, 2, none⟩ = some bv := h.cell 2
  have f1 := h.frozen 1
  have f2 := h.frozen 2
  have H := Lib.hid h
  clear h
  go_enter Tryd.func30, Tryd.ntmps30
  go_wp2
  go_end0
  exact ⟨rfl, (H.out.set 1 _).set 2 _, ((Ext.refl (· = g) w).setCell (p := ⟨g, 1, none⟩) rfl _).setCell (p := ⟨g, 2, none⟩) rfl _⟩


/-! ### String -/
def bytesL (xs : List Int) : List UInt8 := xs.map fun x => x.toNat.toUInt8
theorem cells_of_nums {xs : List Int} (hx : ∀ x ∈ xs, 0 ≤ x ∧ x < 256) : nums .u8 xs = Lib.byteCells (bytesL xs) := by
  induction xs with
  | nil => rfl
  | cons x xs ih =>
    have h := hx x List.mem_cons_self
    simp only [nums, Lib.byteCells, bytesL, List.map_cons] at ih ⊢
    rw [ih (fun y hy => hx y (List.mem_cons_of_mem _ hy))]
    congr 2
    have : x.toNat < 256 := by omega
    simp [Nat.toUInt8, UInt8.toNat_ofNat, Nat.mod_eq_of_lt this]
    omega
theorem strOfNums_bytesL (xs : List Int) : strOfNums xs = ⟨(bytesL xs).toArray⟩ := by
  rfl

set_option maxHeartbeats 1000000 in
theorem string_calls (g B : Nat) (w : World) (st wv bv : Value) (ad : Option Addr) (xs : List Int) (h : Blk w g #[st, .pointer ad, bv, wv] 47) (ho : w.ownsRow B 5 1 bv xs.length (nums .u8 xs)) (hx : ∀ x ∈ xs, 0 ≤ x ∧ x < 256) (h0 : xs = [] → bv = .slice none 0 0) :
    Calls Tryd.prog 29 #[.pointer (some ⟨g, 1, none⟩)] w fun e w' => e = .returned (.string (strOfNums xs)) ∧ Ext (fun i => bv.ownBlock = some i) w w' := by
  have c2 : w.cell? ⟨g, 2, none⟩ = some bv := h.cell 2
  clear h
  by_cases he : xs = []
  · subst he
    obtain rfl := h0 rfl
    have k1 := fun W => Lib.run_unsafeSliceData_nil (P := Tryd.prog) W #[22] 75 0 0
    have k2 := fun W => Lib.run_unsafeString_none (P := Tryd.prog) W 75 3 9 none
    clear ho hx h0
    go_enter Tryd.func29, Tryd.ntmps29
    go_wp2
    go_region
    all_goals
      go_wp2
      go_ret
      exact ⟨rfl, (Ext.refl _ w).drew⟩
  · have hn : 0 < xs.length := List.length_pos_iff.2 he
    obtain ⟨k, cap, cur, rfl, hB, hk, hcap, hm, hcs⟩ : ∃ k cap cur, bv = .slice (some ⟨k, 0, none⟩) xs.length cap ∧ B ≤ k ∧ w.heap[k]? = some (.cells cur 5 (0, 0)) ∧ xs.length ≤ cap ∧ cap ≤ maxLen ∧ cur.size = cap := by
      rcases ho.2 with ⟨_, h1⟩ | ⟨k, cap, cur, h1, h2, h3, h4, h5, h6, _⟩
      · omega
      · exact ⟨k, cap, cur, h1, h2, h3, h4, h5, by simpa using h6⟩
    have hcell := ho.cells (g := k) rfl
    rw [cells_of_nums hx] at hcell
    have hlen : (bytesL xs).length = xs.length := by simp [bytesL]
    have k1 := fun W => Lib.run_unsafeSliceData_row (P := Tryd.prog) W #[22] 75 ⟨k, 0, none⟩ xs.length cap (by omega)
    have k2 := Lib.run_unsafeString_row (P := Tryd.prog) w.drew 75 3 9 5 Tryd.underlying75 (by kernel_rfl) k cap (by show w.shape? k = _; simp [World.shape?, hk, hcs]) (bytesL xs) (by intro e; exact he (by simpa [bytesL] using e)) (by omega) (by unfold maxLen at hm; omega) (fun j x hj => hcell j _ (by simp [Lib.byteCells, hj]))
    rw [hlen] at k2
    have hfin : (⟨(bytesL xs).toArray⟩ : ByteArray) = strOfNums xs := rfl
    rw [hfin] at k2
    generalize strOfNums xs = sx at *
    clear hcell ho hx h0 hfin he hm hcs hcap hk
    go_enter Tryd.func29, Tryd.ntmps29
    go_wp2
    go_region
    all_goals
      go_wp2
      go_ret
      exact ⟨rfl, ((Ext.refl (fun i => (Value.slice (some ⟨k, 0, none⟩) xs.length cap).ownBlock = some i) w).drew.freeze (p := ⟨k, 0, none⟩) rfl _)⟩

/-! ### WriteRune -/
theorem info5h : (Tryd.prog.info? 5).map (fun i => (i.zero, i.size, i.bytes)) = some (some (.int .u8 0), 1, 1) := by kernel_rfl
theorem nums_rune (xs : List Int) (r : Int) : nums .u8 xs ++ Lib.runeCells r = nums .u8 (xs ++ Lib.encodeRuneZ r) := by simp [nums, Lib.runeCells]
set_option maxHeartbeats 2000000 in
theorem writeRune_calls (g B : Nat) (w : World) (st wv bv : Value) (ad : Option Addr) (xs : List Int) (r : Int) (h : Blk w g #[st, .pointer ad, bv, wv] 47) (ha : ad = none ∨ ad = some ⟨g, 1, none⟩) (ho : w.ownsRow B 5 1 bv xs.length (nums .u8 xs))
    (hr0 : -2147483648 ≤ r) (hr1 : r ≤ 2147483647) (hl : xs.length + 4 ≤ 140737488355328) (hB : B ≤ w.heap.size) :
    Calls Tryd.prog 28 #[.pointer (some ⟨g, 1, none⟩), .int .i32 r] w fun e w' => ∃ v bv', e = .returned v ∧ Blk w' g #[st, .pointer (some ⟨g, 1, none⟩), bv', wv] 47 ∧ w'.ownsRow B 5 1 bv' (xs ++ Lib.encodeRuneZ r).length (nums .u8 (xs ++ Lib.encodeRuneZ r)) ∧ bv' ≠ .slice none 0 0 ∧ Ext (fun i => i = g ∨ bv.ownBlock = some i) w w' := by
  have hne := own_ne ho h (by decide)
  obtain ⟨bA, bc, rfl⟩ : ∃ A c, bv = .slice A xs.length c := own_slice ho
  have H0 := Lib.hid h
  have HO := Lib.hid ho
  have HA := Lib.hid ha
  have HN := Lib.hid hne
  clear h ho ha hne
  go_enter Tryd.func28, Tryd.ntmps28
  go_wp2_with (go_at_call 39; refine (copyCheck_calls g _ st _ wv ad H0.out HA.out).mono ?_; rintro e w1 ⟨rfl, h1, he1⟩; have c2 : w1.cell? ⟨g, 2, none⟩ = some (.slice bA xs.length bc) := h1.cell 2; have H1 := Lib.hid h1; clear h1)
  have ho1 : w1.ownsRow B 5 1 (.slice bA xs.length bc) xs.length (nums .u8 xs) := own_ext HO.out he1 (fun k hk e => HN.out (by rw [hk, e]))
  refine (Tryd.utf8_AppendRune_plain B _ xs.length (nums .u8 xs) r hr0 hr1 w1 ho1 hl (Nat.le_trans hB he1.size)).mono ?_
  rintro e w2 ⟨bv', rfl, ho2, o, hg⟩
  have HG := Lib.hid hg
  have hlt := H1.out.lt
  have h2 : Blk w2 g #[st, .pointer (some ⟨g, 1, none⟩), .slice bA xs.length bc, wv] 47 := by
    refine (hg.block g (by simp; omega) (fun e => HN.out e.symm)).trans ?_
    rw [heap_alloc_old _ _ hlt]
    exact H1.out
  have e2 : Ext (fun i => i = g ∨ (Value.slice bA xs.length bc).ownBlock = some i) w w2 := ((he1.mono (fun i _ hi => .inl hi)).alloc o).grown hg (fun k hk => .inr hk)
  have hlen : xs.length + (Lib.runeCells r).length = (xs ++ Lib.encodeRuneZ r).length := by simp [Lib.runeCells]
  rw [nums_rune, hlen] at ho2
  have hpos : 0 < (xs ++ Lib.encodeRuneZ r).length := by have := (Lib.encodeRuneZ_length r).1; rw [List.length_append]; omega
  obtain ⟨ys, hys⟩ : ∃ ys, ys = xs ++ Lib.encodeRuneZ r := ⟨_, rfl⟩
  rw [← hys] at ho2 hpos hlen
  obtain ⟨k, cap, rfl, hBk, hown⟩ := ho2.form hpos
  have HY := Lib.hid hys
  clear hys
  have ho3 := own_ne ho2 h2 (by decide)
  have c3 : w2.cell? ⟨g, 2, none⟩ = some (.slice bA xs.length bc) := h2.cell 2
  have f3 := h2.frozen 2
  have H2 := Lib.hid h2
  have HO2 := Lib.hid ho2
  have HN3 := Lib.hid ho3
  have HE2 := Lib.hid e2
  clear hg h2 ho2 ho3 e2 ho1 he1 hlen hown
  go_wp2
  go_ret2
  rw [← HY.out]
  exact ⟨_, _, rfl, H2.out.set 2 _, own_ext HO2.out ((Ext.refl (· = g) w2).setCell (p := ⟨g, 2, none⟩) rfl _) (fun k hk e => HN3.out (by rw [hk, e])), by simp, HE2.out.setCell (p := ⟨g, 2, none⟩) (.inl rfl) _⟩

/-! ### end -/
def strs (l : List ByteArray) : List Value := l.map .string
theorem info9h : (Tryd.prog.info? 9).map (fun i => (i.zero, i.size, i.bytes)) = some (some (.string ⟨#[]⟩), 1, 16) := by kernel_rfl
set_option maxHeartbeats 4000000 in
theorem end_calls (g B : Nat) (w : World) (st wv bv : Value) (ad : Option Addr) (xs : List Int) (ws : List ByteArray) (h : Blk w g #[st, .pointer ad, bv, wv] 47) (ho : w.ownsRow B 5 1 bv xs.length (nums .u8 xs)) (hx : ∀ x ∈ xs, 0 ≤ x ∧ x < 256) (h0 : xs = [] → bv = .slice none 0 0)
    (hw : w.ownsRow B 9 1 wv ws.length (strs ws)) (hl : (ws.length + 1) * 16 ≤ 140737488355328) (hB : B ≤ w.heap.size) (hBg : B ≤ g) :
    Calls Tryd.prog 18 #[.pointer (some ⟨g, 0, none⟩)] w fun e w' => ∃ wv', e = .returned (.tuple #[]) ∧ Blk w' g #[.int .i64 0, .pointer none, .slice none 0 0, wv'] 47 ∧ w'.ownsRow B 9 1 wv' (ws ++ [strOfNums xs]).length (strs (ws ++ [strOfNums xs])) ∧ Ext (fun i => i = g ∨ bv.ownBlock = some i ∨ wv.ownBlock = some i) w w' := by
  obtain ⟨i0, hi, hz0, hz1, hz2⟩ := info_parts info9h
  have nb := Lib.hid (own_ne ho h (by decide))
  have nw := Lib.hid (own_ne hw h (by decide))
  have nbw := Lib.hid (own_type_ne hw ho (by decide))
  have c3 : w.cell? ⟨g, 3, none⟩ = some wv := h.cell 3
  have H0 := Lib.hid h
  have HO := Lib.hid ho
  have HX := Lib.hid hx
  have H00 := Lib.hid h0
  have HW := Lib.hid hw
  clear h ho hx h0 hw
  go_enter Tryd.func18, Tryd.ntmps18
  go_wp2
  have HD := Lib.hid (show Blk w.drew g #[st, .pointer ad, bv, wv] 47 from H0.out)
  have HOD := Lib.hid (show w.drew.ownsRow B 5 1 bv xs.length (nums .u8 xs) from HO.out)
  refine start_ (n := 14) (S := fun w' => w'.cell? ⟨g, 3, none⟩ = some wv) (ds := [13]) #[false, false, false, false, false, false, false, false, false, false, false, false, false, false] (by kernel_rfl) rfl rfl (c3) (fun hHeld => ?_)
  refine pure_ (i := 0) (N := some 2) (v := ?_) (a' := ?_) #[true, false, false, false, false, false, false, false, false, false, false, false, false, false] rfl rfl (by kernel_rfl) (fun _ _ _ h => h) (Or.inl ⟨by rfl, ?_⟩) ?_ ?_
  rotate_left
  · intro w'
    go_simp
    with_reducible rfl
  rotate_left
  · simp only [Act.put, List.setIfInBounds_toArray, List.set_cons_zero, List.set_cons_succ, i64_w, i32_w]
    rfl
  refine pure_ (i := 1) (N := some 3) (v := ?_) (a' := ?_) #[true, true, false, false, false, false, false, false, false, false, false, false, false, false] rfl rfl (by kernel_rfl) (fun _ _ _ h => h) (Or.inl ⟨by rfl, ?_⟩) ?_ ?_
  rotate_left
  · intro w'
    go_simp
    with_reducible rfl
  rotate_left
  · simp only [Act.put, List.setIfInBounds_toArray, List.set_cons_zero, List.set_cons_succ, i64_w, i32_w]
    rfl
  refine pure_ (i := 2) (N := some 4) (v := ?_) (a' := ?_) #[true, true, true, false, false, false, false, false, false, false, false, false, false, false] rfl rfl (by kernel_rfl) (fun _ _ _ h => h) (Or.inl ⟨by rfl, ?_⟩) ?_ ?_
  rotate_left
  · intro w'
    go_simp
    with_reducible rfl
  rotate_left
  · simp only [Act.put, List.setIfInBounds_toArray, List.set_cons_zero, List.set_cons_succ, i64_w, i32_w]
    rfl
  refine pure_ (i := 3) (N := some 5) (v := ?_) (a' := ?_) #[true, true, true, true, false, false, false, false, false, false, false, false, false, false] rfl rfl (by kernel_rfl) (fun _ _ _ h => h) (Or.inl ⟨by rfl, ?_⟩) ?_ ?_
  rotate_left
  · intro w'
    go_simp
    with_reducible rfl
  rotate_left
  · simp only [Act.put, List.setIfInBounds_toArray, List.set_cons_zero, List.set_cons_succ, i64_w, i32_w]
    rfl
  refine pure_ (i := 5) (N := some 7) (v := ?_) (a' := ?_) #[true, true, true, true, false, true, false, false, false, false, false, false, false, false] rfl rfl (by kernel_rfl) (fun _ _ _ h => h) (Or.inl ⟨by rfl, ?_⟩) ?_ ?_
  rotate_left
  · intro w'
    go_simp
    with_reducible rfl
  rotate_left
  · simp only [Act.put, List.setIfInBounds_toArray, List.set_cons_zero, List.set_cons_succ, i64_w, i32_w]
    rfl
  refine pure_ (i := 6) (N := some 8) (v := ?_) (a' := ?_) #[true, true, true, true, false, true, true, false, false, false, false, false, false, false] rfl rfl (by kernel_rfl) (fun _ _ _ h => h) (Or.inl ⟨by rfl, ?_⟩) ?_ ?_
  rotate_left
  · intro w'
    go_simp
    with_reducible rfl
  rotate_left
  · simp only [Act.put, List.setIfInBounds_toArray, List.set_cons_zero, List.set_cons_succ, i64_w, i32_w]
    rfl
  refine pure_ (i := 7) (N := some 9) (v := ?_) (a' := ?_) #[true, true, true, true, false, true, true, true, false, false, false, false, false, false] rfl rfl (by kernel_rfl) (fun _ _ _ h => h) (Or.inl ⟨by rfl, ?_⟩) ?_ ?_
  rotate_left
  · intro w'
    go_simp
    with_reducible rfl
  rotate_left
  · simp only [Act.put, List.setIfInBounds_toArray, List.set_cons_zero, List.set_cons_succ, i64_w, i32_w]
    rfl
  refine take_ (i := 4) (N := some 6) (v := ?_) (a' := ?_) #[true, true, true, true, true, true, true, true, false, false, false, false, false, false] rfl rfl (by kernel_rfl) (fun _ _ _ h => h) (Or.inl ⟨by rfl, ?_⟩) hHeld ?_ ?_
  rotate_left
  · intro w' s0
    go_simp
    with_reducible rfl
  rotate_left
  · simp only [Act.put, List.setIfInBounds_toArray, List.set_cons_zero, List.set_cons_succ, i64_w, i32_w]
    rfl
  refine one_ (i := 8) (N := some 10) #[true, true, true, true, true, true, true, true, true, false, false, false, false, false] rfl rfl (by kernel_rfl) (by decide) (fun K hK => ?_)
  refine goes_ Tryd.func29 (by kernel_rfl) rfl #[.pointer (some ⟨g, 1, none⟩)] (by rfl) rfl rfl (by simp only [List.map_toArray, List.map_cons, List.map_nil]; rfl) ?_
  with_reducible refine (string_calls g B _ st wv bv ad xs HD.out HOD.out HX.out H00.out).mono ?_
  rintro e w1 ⟨rfl, he1⟩
  refine ⟨_, rfl, ?_⟩
  have HE1 := Lib.hid he1
  have H1 := Lib.hid ((show Blk w.drew g _ 47 from H0.out).ext he1 nb.out)
  have HW1 := Lib.hid (own_ext (show World.ownsRow w.drew B 9 1 wv ws.length (strs ws) from HW.out) he1 (fun k hk e => by rcases nbw.out with h | h; (rw [h] at hk; cases hk); exact h (hk.trans e.symm)))
  clear he1
  refine hK.out _ _ ((H1.out.cell 3)) (fun hHeld => ?_)
  clear hK K
  refine norm_ (a' := ?_) ?_ ?_
  rotate_left
  · show Act.put _ (some 10) _ = _
    simp only [Act.put, List.setIfInBounds_toArray, List.set_cons_zero, List.set_cons_succ, i64_w, i32_w]
    rfl
  refine one_ (i := 9) (N := some 11) #[true, true, true, true, true, true, true, true, true, true, false, false, false, false] rfl rfl (by kernel_rfl) (by decide) (fun K hK => ?_)
  refine value_ (w1 := ?_) (v := ?_) (by rfl) rfl ?_ ?_
  rotate_left 2
  · go_simp
    constructor
    · rfl
    · rfl
  refine hK.out _ _ ((Lib.cell?_alloc_marked _ hHeld)) (fun hHeld => ?_)
  clear hK K
  refine norm_ (a' := ?_) ?_ ?_
  rotate_left
  · show Act.put _ (some 11) _ = _
    simp only [Act.put, List.setIfInBounds_toArray, List.set_cons_zero, List.set_cons_succ, i64_w, i32_w]
    rfl
  refine one_ (i := 10) (N := some 12) #[true, true, true, true, true, true, true, true, true, true, true, false, false, false] rfl rfl (by kernel_rfl) (by decide) (fun K hK => ?_)
  refine step_append_lies _ rfl _ _ 30 rfl B 9 i0 (.string ⟨#[]⟩) 1 16 Tryd.underlying30 hi hz0 hz1 hz2 rfl (by decide) wv ws.length (strs ws) rfl (HW1.out.alloc _) ⟨w1.heap.size, 0, none⟩ 1 1 [.string (strOfNums xs)] rfl rfl (World.news_of_block (cs := #[.string (strOfNums xs)]) (t := 9) (fr := (0, 0)) (heap_alloc_new w1 _)) (by simp [Value.oneCell']) (by decide) (by unfold maxLen; omega) hl (by simp; have := HE1.out.size; simp at this; omega) _ rfl ?_
  intro k cap w2 ho2 hg2 hat hlt
  have H2 := Lib.hid ((H1.out.alloc _).grown hg2 nw.out)
  have HO2 := Lib.hid ho2
  have HG2 := Lib.hid hg2
  have f23 := H2.out.frozen 3
  clear ho2 hg2 hat
  refine hK.out _ _ ((H2.out.cell 3)) (fun hHeld => ?_)
  clear hK K
  refine norm_ (a' := ?_) ?_ ?_
  rotate_left
  · show Act.put _ (some 12) _ = _
    simp only [Act.put, List.setIfInBounds_toArray, List.set_cons_zero, List.set_cons_succ, i64_w, i32_w]
    rfl
  refine pure_ (i := 11) (N := some 13) (v := ?_) (a' := ?_) #[true, true, true, true, true, true, true, true, true, true, true, true, false, false] rfl rfl (by kernel_rfl) (fun _ _ _ h => h) (Or.inl ⟨by rfl, ?_⟩) ?_ ?_
  rotate_left
  · intro w'
    go_simp
    with_reducible rfl
  rotate_left
  · simp only [Act.put, List.setIfInBounds_toArray, List.set_cons_zero, List.set_cons_succ, i64_w, i32_w]
    rfl
  refine pure_ (i := 12) (N := some 14) (v := ?_) (a' := ?_) #[true, true, true, true, true, true, true, true, true, true, true, true, true, false] rfl rfl (by kernel_rfl) (fun _ _ _ h => h) (Or.inl ⟨by rfl, ?_⟩) ?_ ?_
  rotate_left
  · intro w'
    go_simp
    with_reducible rfl
  rotate_left
  · simp only [Act.put, List.setIfInBounds_toArray, List.set_cons_zero, List.set_cons_succ, i64_w, i32_w]
    rfl
  refine last_ (i := 13) (N := none) #[true, true, true, true, true, true, true, true, true, true, true, true, true, true] rfl rfl (by kernel_rfl) (by decide) (fun K hK => ?_)
  refine skip_ (w1 := ?_) (by rfl) rfl ?_ ?_
  rotate_left
  · go_simp
    rfl
  refine hK.out _ _ ?_
  clear hK K
  refine done_ (by kernel_rfl) ?_
  have he2 : Ext (fun i => i = g ∨ bv.ownBlock = some i ∨ wv.ownBlock = some i) w w2 := ((((Ext.refl (fun i => i = g ∨ bv.ownBlock = some i ∨ wv.ownBlock = some i) w).drew.trans (HE1.out.mono (fun i _ hi => .inr (.inl hi)))).alloc _).grown HG2.out (fun k hk => .inr (.inr hk)))
  have H3 := Lib.hid (H2.out.set 3 (.slice (some ⟨k, 0, none⟩) (ws.length + 1) cap))
  have HE2 := Lib.hid he2
  have hn3 := Lib.hid (own_ne HO2.out H2.out (by decide))
  clear he2
  clear hHeld c3
  go_wp2_with (go_at_call 30; refine (reset_calls g _ st bv (.slice (some ⟨k, 0, none⟩) (ws.length + 1) cap) ad H3.out).mono ?_; rintro e w4 ⟨rfl, h4, he4⟩; have f40 := h4.frozen 0; have c40 : w4.cell? ⟨g, 0, none⟩ = some st := h4.cell 0; have H4 := Lib.hid h4; have HE4 := Lib.hid he4; clear h4 he4)
  go_end0
  have hs : ∀ k', (Value.slice (some ⟨k, 0, none⟩) (ws.length + 1) cap).ownBlock = some k' → ¬ (k' = g) := fun k' hk e => hn3.out (hk.trans (by rw [e]))
  have o1 := own_ext HO2.out ((Ext.refl (· = g) w2).setCell (p := ⟨g, 3, none⟩) rfl (.slice (some ⟨k, 0, none⟩) (ws.length + 1) cap)) hs
  have o2 := own_ext (own_ext o1 HE4.out hs) ((Ext.refl (· = g) w4).setCell (p := ⟨g, 0, none⟩) rfl (.int .i64 0)) hs
  refine ⟨_, rfl, H4.out.set 0 _, ?_, ((HE2.out.setCell (p := ⟨g, 3, none⟩) (.inl rfl) _).trans (HE4.out.mono (fun i _ hi => .inl hi))).setCell (p := ⟨g, 0, none⟩) (.inl rfl) _⟩
  simpa [strs] using o2

/-! ### within, read -/
/-- What isn't a row of cells, or lies below B, stays. -/
structure Keep (B : Nat) (w w' : World) : Prop where
  below : Below B w w'
  size : w.heap.size ≤ w'.heap.size
  block : ∀ (i : Nat) (o : Obj), w.heap[i]? = some o → (∀ c e fr, o ≠ Obj.cells c e fr) → w'.heap[i]? = some o
theorem Keep.refl (B : Nat) (w : World) : Keep B w w := ⟨Below.refl _ _, Nat.le_refl _, fun _ _ h _ => h⟩
theorem Keep.trans {B : Nat} {a b c : World} (h : Keep B a b) (k : Keep B b c) : Keep B a c := ⟨h.below.trans k.below, Nat.le_trans h.size k.size, fun i o hi ho => k.block i o (h.block i o hi ho) ho⟩
theorem Keep.ext {B : Nat} {S : Nat → Prop} {a b : World} (h : Ext S a b) (hB : B ≤ a.heap.size) (hs : ∀ i, S i → B ≤ i ∧ ∃ c e fr, a.heap[i]? = some (Obj.cells c e fr)) : Keep B a b :=
  ⟨h.below hB (fun i hi hS => by have := (hs i hS).1; omega), h.size, fun i o hi ho => (h.block i ((Array.getElem?_eq_some_iff.1 hi).1) (fun hS => by
    obtain ⟨_, c, e, fr, hc⟩ := hs i hS
    rw [hi] at hc
    exact ho c e fr (Option.some.inj hc))).trans hi⟩
/-- The reader: its state, the word under way, the words. -/
structure Rd (B : Nat) (w : World) (g : Nat) (st : Int) (xs : List Int) (ws : List ByteArray) (bv wv : Value) (ad : Option Addr) : Prop where
  blk : Blk w g #[.int .i64 st, .pointer ad, bv, wv] 47
  ad : ad = none ∨ ad = some ⟨g, 1, none⟩
  word : w.ownsRow B 5 1 bv xs.length (nums .u8 xs)
  byte : ∀ x ∈ xs, 0 ≤ x ∧ x < 256
  nil : xs = [] → bv = .slice none 0 0
  words : w.ownsRow B 9 1 wv ws.length (strs ws)
  base : B ≤ g
theorem Rd.le {B g : Nat} {w : World} {st : Int} {xs : List Int} {ws : List ByteArray} {bv wv : Value} {ad : Option Addr} (h : Rd B w g st xs ws bv wv ad) : B ≤ w.heap.size := by have := h.blk.lt; have := h.base; omega
theorem Rd.cellsOf {B g : Nat} {w : World} {st : Int} {xs : List Int} {ws : List ByteArray} {bv wv : Value} {ad : Option Addr} (h : Rd B w g st xs ws bv wv ad) : ∀ i, (i = g ∨ bv.ownBlock = some i ∨ wv.ownBlock = some i) → B ≤ i ∧ ∃ c e fr, w.heap[i]? = some (Obj.cells c e fr) := by
  rintro i (rfl | hi | hi)
  · exact ⟨h.base, _, _, _, h.blk⟩
  · obtain ⟨c, hc⟩ := own_typed h.word i hi
    exact ⟨own_base h.word i hi, _, _, _, hc⟩
  · obtain ⟨c, hc⟩ := own_typed h.words i hi
    exact ⟨own_base h.words i hi, _, _, _, hc⟩
/-- So is the reader, for some memory. -/
def IsRd (B : Nat) (w : World) (g : Nat) (st : Int) (xs : List Int) (ws : List ByteArray) : Prop := ∃ bv wv ad, Rd B w g st xs ws bv wv ad
theorem IsRd.drew {B g : Nat} {w : World} {st : Int} {xs : List Int} {ws : List ByteArray} (h : IsRd B w g st xs ws) (n : Nat) : IsRd B (w.drewN n) g st xs ws := by
  obtain ⟨bv, wv, ad, h⟩ := h
  exact ⟨bv, wv, ad, ⟨h.blk, h.ad, h.word, h.byte, h.nil, h.words, h.base⟩⟩
theorem Keep.drew {B : Nat} {a b : World} (h : Keep B a b) (n : Nat) : Keep B a (b.drewN n) := ⟨⟨h.below.os, h.below.tape, h.below.output, h.below.size, h.below.block⟩, h.size, h.block⟩

theorem rd_end (B g : Nat) (w : World) (st : Int) (xs : List Int) (ws : List ByteArray) (h : IsRd B w g st xs ws) (hl : (ws.length + 1) * 16 ≤ 140737488355328) :
    Calls Tryd.prog 18 #[.pointer (some ⟨g, 0, none⟩)] w fun e w' => e = .returned (.tuple #[]) ∧ IsRd B w' g 0 [] (ws ++ [strOfNums xs]) ∧ Keep B w w' := by
  obtain ⟨bv, wv, ad, h⟩ := h
  refine (end_calls g B w (.int .i64 st) wv bv ad xs ws h.blk h.word h.byte h.nil h.words hl h.le h.base).mono ?_
  rintro e w' ⟨wv', rfl, hb, ho, he⟩
  exact ⟨rfl, ⟨_, _, _, ⟨hb, .inl rfl, own_nil _ _ _ _, (fun _ hx => (by cases hx)), fun _ => rfl, ho, h.base⟩⟩, Keep.ext he h.le h.cellsOf⟩
theorem rd_rune (B g : Nat) (w : World) (st : Int) (xs : List Int) (ws : List ByteArray) (r : Int) (h : IsRd B w g st xs ws) (hr0 : -2147483648 ≤ r) (hr1 : r ≤ 2147483647) (hl : xs.length + 4 ≤ 140737488355328) :
    Calls Tryd.prog 28 #[.pointer (some ⟨g, 1, none⟩), .int .i32 r] w fun e w' => ∃ v, e = .returned v ∧ IsRd B w' g st (xs ++ Lib.encodeRuneZ r) ws ∧ Keep B w w' := by
  obtain ⟨bv, wv, ad, h⟩ := h
  refine (writeRune_calls g B w (.int .i64 st) wv bv ad xs r h.blk h.ad h.word hr0 hr1 hl h.le).mono ?_
  rintro e w' ⟨v, bv', rfl, hb, ho, hne, he⟩
  refine ⟨v, rfl, ⟨_, _, _, ⟨hb, .inr rfl, ho, ?_, ?_, own_ext h.words he ?_, h.base⟩⟩, Keep.ext he h.le (fun i hi => h.cellsOf i (hi.imp_right .inl))⟩
  · intro x hx
    rcases List.mem_append.1 hx with hx | hx
    · exact h.byte x hx
    · exact Lib.encodeRuneZ_byte r x hx
  · intro e
    have := (Lib.encodeRuneZ_length r).1
    have h2 := congrArg List.length e
    rw [List.length_append] at h2
    simp only [List.length_nil] at h2
    omega
  · rintro k hk (rfl | hk2)
    · exact own_ne h.words h.blk (by decide) hk
    · rcases own_type_ne h.words h.word (by decide) with h1 | h1
      · rw [h1] at hk; cases hk
      · exact h1 (hk.trans hk2.symm)
/-- A store into the state's field. -/
theorem IsRd.set {B g : Nat} {w : World} {st : Int} {xs : List Int} {ws : List ByteArray} (h : IsRd B w g st xs ws) (st' : Int) : IsRd B (w.setCell ⟨g, 0, none⟩ (.int .i64 st')) g st' xs ws ∧ Keep B w (w.setCell ⟨g, 0, none⟩ (.int .i64 st')) := by
  obtain ⟨bv, wv, ad, h⟩ := h
  have he : Ext (· = g) w (w.setCell ⟨g, 0, none⟩ (.int .i64 st')) := (Ext.refl (· = g) w).setCell (p := ⟨g, 0, none⟩) rfl _
  exact ⟨⟨bv, wv, ad, ⟨h.blk.set 0 _, h.ad, own_ext h.word he (fun k hk e => own_ne h.word h.blk (by decide) (hk.trans (by rw [e]))), h.byte, h.nil, own_ext h.words he (fun k hk e => own_ne h.words h.blk (by decide) (hk.trans (by rw [e]))), h.base⟩⟩, Keep.ext he h.le (fun i hi => h.cellsOf i (.inl hi))⟩
theorem IsRd.cell {B g : Nat} {w : World} {st : Int} {xs : List Int} {ws : List ByteArray} (h : IsRd B w g st xs ws) : w.cell? ⟨g, 0, none⟩ = some (.int .i64 st) ∧ w.frozen? ⟨g, 0, none⟩ = false := by
  obtain ⟨bv, wv, ad, h⟩ := h
  exact ⟨h.blk.cell 0, h.blk.frozen 0⟩
end Go.Proofs.YtpnghpmgdekmgaaDoor.Q

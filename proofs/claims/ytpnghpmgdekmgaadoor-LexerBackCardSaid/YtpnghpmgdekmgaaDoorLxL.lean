import Derived.Test.YtpnghpmgdekmgaaDoorLxW
import Derived.Lib.OthersKept
import Derived.Deep.LoopGhost
import Derived.Deep.QuietTactic
import Derived.BigQuiet
import Derived.Deep.QuietTactic
import Derived.BigQuiet
namespace Go.Proofs.YtpnghpmgdekmgaaDoor.Q
open Go.RowKit Go.Proofs.YtpnghpmgdekmgaaDoorW.PrintWords Go.Proofs.YtpnghpmgdekmgaaDoorW.PrintLast Go.Proofs.YtpnghpmgdekmgaaDoorW.PrintMore
set_option linter.unusedVariables false
set_option linter.unusedSimpArgs false

/-- A line, rune by rune from a place on. -/
def lineS (s : ByteArray) : Nat → Nat → Int → List Int → List ByteArray → Option (Int × List Int × List ByteArray)
  | 0, _, _, _, _ => none
  | k + 1, pos, st, xs, ws =>
    if pos < s.size then
      match readS st xs ws (Utf8.decode s pos).1 with
      | none => none
      | some r => if r.1 = true then lineS s k (pos + (Utf8.decode s pos).2) r.2.1 r.2.2.1 r.2.2.2 else some r.2
    else some (st, xs, ws)
/-- What a line comes to. -/
def lineEnd : Option (Int × List Int × List ByteArray) → List ByteArray × Bool
  | none => ([], false)
  | some r => if r.1 = 1 then (r.2.2 ++ [strOfNums r.2.1], true) else (r.2.2, decide (r.1 = 0 ∨ r.1 = 4))
def lineOf (s : ByteArray) : List ByteArray × Bool := lineEnd (lineS s (s.size + 1) 0 0 [] [])

theorem decode_pos (s : ByteArray) (i : Nat) : 1 ≤ (Utf8.decode s i).2 := by
  unfold Utf8.decode
  simp only
  repeat' split
  all_goals simp
theorem decode_le (s : ByteArray) (i : Nat) : (Utf8.decode s i).1 ≤ 2147483647 := by
  have hb : ∀ j, (s.get! j).toNat < 256 := fun j => (s.get! j).toNat_lt
  unfold Utf8.decode
  simp only
  have h0 := hb (i + 0); have h1 := hb (i + 1); have h2 := hb (i + 2); have h3 := hb (i + 3)
  repeat' split
  all_goals simp only [Utf8.runeError]
  all_goals omega
/-- How much a rune adds. -/
theorem withinS_size {st : Int} {xs : List Int} {ws : List ByteArray} {c : Int} {r : Int × List Int × List ByteArray} (h : withinS st xs ws c = some r) : r.2.1.length ≤ xs.length + 4 ∧ r.2.2.length ≤ ws.length + 1 := by
  have hl := fun x => (Lib.encodeRuneZ_length x).2
  unfold withinS at h
  repeat' split at h
  all_goals first
    | (cases h; done)
    | (obtain rfl := Option.some.inj h; have := hl c; have := hl 10; constructor <;> simp <;> omega)
theorem readS_size {st : Int} {xs : List Int} {ws : List ByteArray} {c : Int} {r : Bool × Int × List Int × List ByteArray} (h : readS st xs ws c = some r) : r.2.2.1.length ≤ xs.length + 4 ∧ r.2.2.2.length ≤ ws.length + 1 := by
  have hl := fun x => (Lib.encodeRuneZ_length x).2
  unfold readS at h
  split at h
  · obtain ⟨q, hq, rfl⟩ := Option.map_eq_some_iff.1 h
    exact withinS_size hq
  repeat' split at h
  all_goals first
    | (cases h; done)
    | (obtain rfl := Option.some.inj h; have := hl c; constructor <;> simp <;> omega)

theorem IsRd.other {B g : Nat} {w w' : World} {st : Int} {xs : List Int} {ws : List ByteArray} (h : IsRd B w g st xs ws) (hb : ∀ (i : Nat) (c : Array Value) (e : Nat) (fr : Nat × Nat), w.heap[i]? = some (Obj.cells c e fr) → w'.heap[i]? = w.heap[i]?) : IsRd B w' g st xs ws := by
  obtain ⟨bv, wv, ad, h⟩ := h
  refine ⟨bv, wv, ad, ⟨(hb _ _ _ _ h.blk).trans h.blk, h.ad, own_move h.word ?_, h.byte, h.nil, own_move h.words ?_, h.base⟩⟩
  · intro k hk
    obtain ⟨c, hc⟩ := own_typed h.word k hk
    exact hb _ _ _ _ hc
  · intro k hk
    obtain ⟨c, hc⟩ := own_typed h.words k hk
    exact hb _ _ _ _ hc
theorem IsRd.iterAt {B g k : Nat} {w : World} {st : Int} {xs : List Int} {ws : List ByteArray} {s : ByteArray} {pos : Nat} (h : IsRd B w g st xs ws) (hk : w.heap[k]? = some (.stringIter s pos)) (p' : Nat) : IsRd B (w.iterAt k s p') g st xs ws :=
  h.other (fun i c e fr hi => Lib.iterAt_other _ _ _ _ _ (fun e' => by subst e'; rw [hk] at hi; cases hi))

theorem decode_fits (s : ByteArray) (i : Nat) (h : i < s.size) : i + (Utf8.decode s i).2 ≤ s.size := by
  unfold Utf8.decode
  simp only
  repeat' split
  all_goals simp_all
  all_goals omega
theorem kd_strs {w : World} {B : Nat} {v : Value} {ws : List ByteArray} (h : w.ownsRow B 9 1 v ws.length (strs ws)) : Kd.R Kd.string 9 w B (fun _ => True) v ws := Kd.R_of_own h (fun _ _ => trivial)

/-- What holds at a round's head. -/
def LineRel (B : Nat) (w wr : World) (s : ByteArray) (pos : Nat) (st : Int) (xs : List Int) (ws : List ByteArray) : Prop :=
  IsRd B wr B st xs ws ∧ wr.heap[B + 1]? = some (.stringIter s pos) ∧ Below B w wr ∧ xs.length ≤ 4 * pos ∧ ws.length ≤ pos ∧ pos ≤ s.size

set_option maxHeartbeats 8000000 in
theorem line_calls (s : ByteArray) (w : World) (hs : s.size ≤ 1000000) :
    Calls Tryd.prog 13 #[.string s] w fun e w' => ∃ v, e = .returned (.tuple #[v, .bool (lineOf s).2]) ∧ Kd.R Kd.string 9 w' w.heap.size (fun _ => True) v (lineOf s).1 ∧ Below w.heap.size w w' := by
  obtain ⟨R, hR⟩ : ∃ R, lineS s (s.size + 1) 0 0 [] [] = R := ⟨_, rfl⟩
  have hfin : lineOf s = lineEnd R := by unfold lineOf; rw [hR]
  rw [hfin]
  clear hfin
  have HR0 := Aside0.mk hR
  have HS := Aside0.mk hs
  clear hR hs
  have hu := Tryd.underlying47
  go_enter Tryd.func13, Tryd.ntmps13
  go_wp2
  go_loopg [] (s.size + 1) (fun gk wr => ∃ (pos : Nat) (st : Int) (xs : List Int) (ws : List ByteArray), Aside0 (lineS s gk pos st xs ws = R) ∧ Aside0 (s.size < gk + pos) ∧ Aside0 (LineRel w.heap.size w wr s pos st xs ws))
  case atStart =>
    refine ⟨0, 0, [], [], HR0, ⟨by omega⟩, ⟨⟨_, _, _, ⟨(show Blk (w.alloc _) w.heap.size _ _ from heap_alloc_new w _).alloc _, .inl rfl, own_nil _ _ _ _, fun x hx => (by cases hx), fun _ => rfl, own_nil _ _ _ _, Nat.le_refl _⟩⟩, ?_, ?_, by simp, by simp, by omega⟩⟩
    · have := World.iter_heap (w.alloc (Obj.cells #[Value.int IntKind.i64 0, Value.pointer none, Value.slice none 0 0, Value.slice none 0 0] 47)) s 0
      simpa using this
    · exact ((Below.refl _ _).alloc (Nat.le_refl _) _).alloc (by simp) _
  case round =>
    clear HR0
    obtain ⟨pos, st, xs, ws, HA, HF, HL⟩ := hrel
    cases gk with
    | zero => exact absurd HF.out (by have := HL.out.2.2.2.2.2; omega)
    | succ k1 =>
      have H := HA.out
      clear HA
      simp only [lineS] at H
      obtain ⟨hI, hit, hB, hx4, hwp, hps⟩ := HL.out
      clear HL
      have HX := Aside0.mk (And.intro hx4 (And.intro hwp hps))
      clear hx4 hwp hps
      by_cases hp : pos < s.size
      · rw [if_pos hp] at H
        have hnx := fun ty => Lib.run_next_any_at (P := Tryd.prog) wr (w.heap.size + 1) s pos ty hit hp
        obtain ⟨c, hc⟩ : ∃ c : Nat, (Utf8.decode s pos).1 = c := ⟨_, rfl⟩
        obtain ⟨d, hd⟩ : ∃ d : Nat, (Utf8.decode s pos).2 = d := ⟨_, rfl⟩
        have hc1 := decode_le s pos
        have hd1 := decode_pos s pos
        have hd2 := decode_fits s pos hp
        rw [hc] at hnx H hc1
        rw [hd] at hnx H hd1 hd2
        have HD := Aside0.mk (And.intro hd1 hd2)
        clear hc hd hp hd1 hd2
        have hI' := hI.iterAt hit (pos + d)
        have hit' := Lib.iterAt_heap wr (w.heap.size + 1) s pos (pos + d) hit
        have hB' := Lib.below_iterAt hB (k := w.heap.size + 1) (by omega) s (pos + d)
        generalize hW : wr.iterAt (w.heap.size + 1) s (pos + d) = W at *
        clear hI hB
        have HC := read_calls w.heap.size w.heap.size W st xs ws (c : Int) hI' (by omega) (by omega) (by have := HX.out; have := HS.out; omega) (by have := HX.out; have := HS.out; omega)
        have HB := Aside0.mk hB'
        have HIT := Aside0.mk hit'
        clear hI' hB' hit' hit hW hc1
        cases hrs : readS st xs ws (c : Int) with
        | none =>
          rw [hrs] at HC H
          subst H
          have HC' := Lib.hid HC
          clear HC hrs
          go_wp2_with (go_at_call 17; refine HC'.out.mono ?_; rintro e w1 ⟨⟨m, rfl, hm⟩, h1, k1⟩; have K1 := Lib.hid k1; clear h1 k1 hm)
          go_ret2
          exact ⟨_, rfl, Kd.R_nil _ _ _ _ _, HB.out.trans K1.out.below⟩
        | some r =>
          rw [hrs] at HC H
          have hz := readS_size hrs
          have HZ := Aside0.mk hz
          have HC' := Lib.hid HC
          clear HC hrs hz
          obtain ⟨m, st2, xs2, ws2⟩ := r
          cases m with
          | true =>
            have H' := Aside0.mk (show lineS s k1 (pos + d) st2 xs2 ws2 = R from H)
            clear H
            go_wp2_with (go_at_call 17; refine HC'.out.mono ?_; rintro e w1 ⟨⟨m, rfl, hm⟩, h1, k1⟩; obtain rfl : true = m := hm _ rfl; have K1 := Lib.hid k1; have H1 := Lib.hid (h1 _ rfl); clear h1 k1 hm)
            go_roundg k1
            case measure => omega
            case rel => exact ⟨pos + d, st2, xs2, ws2, H', ⟨by have := HF.out; have := HD.out; omega⟩, ⟨H1.out, K1.out.block _ _ HIT.out (fun _ _ _ => by intro h; cases h), HB.out.trans K1.out.below, by have := HX.out; have h_ : xs2.length ≤ xs.length + 4 := HZ.out.1; have := HD.out; omega, by have := HX.out; have h_ : ws2.length ≤ ws.length + 1 := HZ.out.2; have := HD.out; omega, HD.out.2⟩⟩
          | false =>
            have hR : some (st2, xs2, ws2) = R := H
            subst hR
            clear H
            by_cases s1 : st2 = 1
            · subst s1
              have hfin : lineEnd (some ((1 : Int), xs2, ws2)) = (ws2 ++ [strOfNums xs2], true) := rfl
              have HFIN := Lib.hid hfin
              clear hfin
              go_wp2_with (first | (go_at_call 17; refine HC'.out.mono ?_; rintro e w1 ⟨⟨m, rfl, hm⟩, h1, k1⟩; obtain rfl : false = m := hm _ rfl; have K1 := Lib.hid k1; have H1 := Lib.hid (h1 _ rfl); obtain ⟨cc, cf⟩ := H1.out.cell; clear h1 k1 hm) | (go_at_call 18; refine (rd_end w.heap.size w.heap.size _ 1 xs2 ws2 H1.out (by have := HX.out; have h_ : ws2.length ≤ ws.length + 1 := HZ.out.2; have := HS.out; have := HD.out; omega)).mono ?_; rintro e w2 ⟨rfl, h2, k2⟩; have K2 := Lib.hid k2; obtain ⟨bv, wv, ad, h2⟩ := h2; have c0 : w2.cell? ⟨w.heap.size, 0, none⟩ = some (.int .i64 0) := h2.blk.cell 0; have c3 : w2.cell? ⟨w.heap.size, 3, none⟩ = some wv := h2.blk.cell 3; have H2 := Lib.hid h2; clear h2 k2))
              go_quiet (fail)
              go_wp2
              go_ret2
              rw [HFIN.out]
              exact ⟨_, rfl, kd_strs H2.out.words, pw_below_drewN ((HB.out.trans K1.out.below).trans K2.out.below) _⟩
            · have d1 : (st2 == 1) = false := beq_eq_false_iff_ne.2 s1
              have hfin : lineEnd (some (st2, xs2, ws2)) = (ws2, decide (st2 = 0 ∨ st2 = 4)) := by simp only [lineEnd]; rw [if_neg s1]
              have HFIN := Lib.hid hfin
              clear hfin
              by_cases s0 : st2 = 0
              · subst s0
                clear d1
                go_wp2_with (first | (go_at_call 17; refine HC'.out.mono ?_; rintro e w1 ⟨⟨m, rfl, hm⟩, h1, k1⟩; obtain rfl : false = m := hm _ rfl; have K1 := Lib.hid k1; have H1 := Lib.hid (h1 _ rfl); obtain ⟨cc, cf⟩ := H1.out.cell; clear h1 k1 hm; obtain ⟨bv, wv, ad, h2⟩ := H1.out; have c0 : w1.cell? ⟨w.heap.size, 0, none⟩ = some (.int .i64 0) := h2.blk.cell 0; have c3 : w1.cell? ⟨w.heap.size, 3, none⟩ = some wv := h2.blk.cell 3; have H2 := Lib.hid h2; clear h2))
                go_quiet (fail)
                go_wp2
                go_ret2
                rw [HFIN.out]
                exact ⟨_, rfl, kd_strs H2.out.words, pw_below_drewN (HB.out.trans K1.out.below) _⟩
              · have d0 : (st2 == 0) = false := beq_eq_false_iff_ne.2 s0
                by_cases s4 : st2 = 4
                · subst s4
                  clear d0 d1
                  go_wp2_with (first | (go_at_call 17; refine HC'.out.mono ?_; rintro e w1 ⟨⟨m, rfl, hm⟩, h1, k1⟩; obtain rfl : false = m := hm _ rfl; have K1 := Lib.hid k1; have H1 := Lib.hid (h1 _ rfl); obtain ⟨cc, cf⟩ := H1.out.cell; clear h1 k1 hm; obtain ⟨bv, wv, ad, h2⟩ := H1.out; have c0 : w1.cell? ⟨w.heap.size, 0, none⟩ = some (.int .i64 4) := h2.blk.cell 0; have c3 : w1.cell? ⟨w.heap.size, 3, none⟩ = some wv := h2.blk.cell 3; have H2 := Lib.hid h2; clear h2))
                  go_quiet (fail)
                  go_wp2
                  go_ret2
                  rw [HFIN.out]
                  exact ⟨_, rfl, kd_strs H2.out.words, pw_below_drewN (HB.out.trans K1.out.below) _⟩
                · have d4 : (st2 == 4) = false := beq_eq_false_iff_ne.2 s4
                  have e4 : decide (st2 = 0 ∨ st2 = 4) = false := decide_eq_false (by rintro (h | h); exact s0 h; exact s4 h)
                  have E4 := Lib.hid e4
                  clear e4
                  go_wp2_with (first | (go_at_call 17; refine HC'.out.mono ?_; rintro e w1 ⟨⟨m, rfl, hm⟩, h1, k1⟩; obtain rfl : false = m := hm _ rfl; have K1 := Lib.hid k1; have H1 := Lib.hid (h1 _ rfl); obtain ⟨cc, cf⟩ := H1.out.cell; clear h1 k1 hm; obtain ⟨bv, wv, ad, h2⟩ := H1.out; have c0 : w1.cell? ⟨w.heap.size, 0, none⟩ = some (.int .i64 st2) := h2.blk.cell 0; have c3 : w1.cell? ⟨w.heap.size, 3, none⟩ = some wv := h2.blk.cell 3; have H2 := Lib.hid h2; clear h2))
                  go_quiet (fail)
                  go_wp2
                  go_ret2
                  rw [HFIN.out]
                  rw [E4.out]
                  exact ⟨_, rfl, kd_strs H2.out.words, pw_below_drewN (HB.out.trans K1.out.below) _⟩
      · rw [if_neg hp] at H
        subst H
        have hnx := fun ty => Lib.run_next_end_at (P := Tryd.prog) wr (w.heap.size + 1) s pos ty hit hp
        have HB := Aside0.mk hB
        have HI := Aside0.mk hI
        clear hit hp hB hI
        by_cases s1 : st = 1
        · subst s1
          have hfin : lineEnd (some ((1 : Int), xs, ws)) = (ws ++ [strOfNums xs], true) := rfl
          have HFIN := Lib.hid hfin
          clear hfin
          obtain ⟨cc, cf⟩ := HI.out.cell
          go_wp2_with (first | (go_at_call 18; refine (rd_end w.heap.size w.heap.size _ 1 xs ws HI.out (by have := HX.out; have := HS.out; omega)).mono ?_; rintro e w2 ⟨rfl, h2, k2⟩; have K2 := Lib.hid k2; obtain ⟨bv, wv, ad, h2⟩ := h2; have c0 : w2.cell? ⟨w.heap.size, 0, none⟩ = some (.int .i64 0) := h2.blk.cell 0; have c3 : w2.cell? ⟨w.heap.size, 3, none⟩ = some wv := h2.blk.cell 3; have H2 := Lib.hid h2; clear h2 k2))
          go_quiet (fail)
          go_wp2
          go_ret2
          rw [HFIN.out]
          exact ⟨_, rfl, kd_strs H2.out.words, pw_below_drewN ((HB.out).trans K2.out.below) _⟩
        · have d1 : (st == 1) = false := beq_eq_false_iff_ne.2 s1
          have hfin : lineEnd (some (st, xs, ws)) = (ws, decide (st = 0 ∨ st = 4)) := by simp only [lineEnd]; rw [if_neg s1]
          have HFIN := Lib.hid hfin
          clear hfin
          by_cases s0 : st = 0
          · subst s0
            clear d1
            obtain ⟨bv, wv, ad, h2⟩ := HI.out
            have c0 : wr.cell? ⟨w.heap.size, 0, none⟩ = some (.int .i64 0) := h2.blk.cell 0
            have c3 : wr.cell? ⟨w.heap.size, 3, none⟩ = some wv := h2.blk.cell 3
            have H2 := Lib.hid h2
            clear h2
            go_wp2
            go_quiet (fail)
            go_wp2
            go_ret2
            rw [HFIN.out]
            exact ⟨_, rfl, kd_strs H2.out.words, pw_below_drewN (HB.out) _⟩
          · have d0 : (st == 0) = false := beq_eq_false_iff_ne.2 s0
            by_cases s4 : st = 4
            · subst s4
              clear d0 d1
              obtain ⟨bv, wv, ad, h2⟩ := HI.out
              have c0 : wr.cell? ⟨w.heap.size, 0, none⟩ = some (.int .i64 4) := h2.blk.cell 0
              have c3 : wr.cell? ⟨w.heap.size, 3, none⟩ = some wv := h2.blk.cell 3
              have H2 := Lib.hid h2
              clear h2
              go_wp2
              go_quiet (fail)
              go_wp2
              go_ret2
              rw [HFIN.out]
              exact ⟨_, rfl, kd_strs H2.out.words, pw_below_drewN (HB.out) _⟩
            · have d4 : (st == 4) = false := beq_eq_false_iff_ne.2 s4
              have e4 : decide (st = 0 ∨ st = 4) = false := decide_eq_false (by rintro (h | h); exact s0 h; exact s4 h)
              have E4 := Lib.hid e4
              clear e4
              obtain ⟨bv, wv, ad, h2⟩ := HI.out
              have c0 : wr.cell? ⟨w.heap.size, 0, none⟩ = some (.int .i64 st) := h2.blk.cell 0
              have c3 : wr.cell? ⟨w.heap.size, 3, none⟩ = some wv := h2.blk.cell 3
              have H2 := Lib.hid h2
              clear h2
              go_wp2
              go_quiet (fail)
              go_wp2
              go_ret2
              rw [HFIN.out]
              rw [E4.out]
              exact ⟨_, rfl, kd_strs H2.out.words, pw_below_drewN (HB.out) _⟩
end Go.Proofs.YtpnghpmgdekmgaaDoor.Q

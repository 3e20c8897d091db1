import Derived.Test.YtpnghpmgdekmgaaDoorLxE
namespace Go.Proofs.YtpnghpmgdekmgaaDoor.Q
open Go.RowKit Go.Proofs.YtpnghpmgdekmgaaDoorW.PrintWords Go.Proofs.YtpnghpmgdekmgaaDoorW.PrintLast Go.Proofs.YtpnghpmgdekmgaaDoorW.PrintMore
set_option linter.unusedVariables false
set_option linter.unusedSimpArgs false

theorem encZ (c : Int) : bytesOf (Utf8.encode c) = Lib.encodeRuneZ c := by
  have e0 : ∀ n : Fin 256, ((UInt8.ofNat n.val).toNat) = n.val := by decide +kernel
  have e : ∀ n, n < 256 → ((UInt8.ofNat n).toNat) = n := fun n hn => e0 ⟨n, hn⟩
  unfold Utf8.encode
  by_cases hv : Utf8.valid c = true
  · simp only [hv, if_true]
    have hv' : (0 ≤ c ∧ c < 55296) ∨ (57344 ≤ c ∧ c ≤ 1114111) := by
      unfold Utf8.valid at hv
      simp at hv
      omega
    by_cases h1 : c.toNat < 128
    · rw [if_pos h1, Lib.encodeRuneZ_one (by omega) (by omega)]
      simp only [bytesOf, List.map_cons, List.map_nil]
      rw [e _ (by omega)]
      simp
      omega
    · rw [if_neg h1]
      by_cases h2 : c.toNat < 2048
      · rw [if_pos h2, Lib.encodeRuneZ_two (by omega) (by omega)]
        simp only [bytesOf, List.map_cons, List.map_nil]
        rw [e _ (by omega), e _ (by omega)]
        simp
        omega
      · rw [if_neg h2]
        by_cases h3 : c.toNat < 65536
        · rw [if_pos h3, Lib.encodeRuneZ_three (by omega)]
          simp only [bytesOf, List.map_cons, List.map_nil]
          rw [e _ (by omega), e _ (by omega), e _ (by omega)]
          simp
          omega
        · rw [if_neg h3, Lib.encodeRuneZ_four (by omega) (by omega)]
          simp only [bytesOf, List.map_cons, List.map_nil]
          rw [e _ (by omega), e _ (by omega), e _ (by omega), e _ (by omega)]
          simp
          omega
  · have hv' : ¬ ((0 ≤ c ∧ c < 55296) ∨ (57344 ≤ c ∧ c ≤ 1114111)) := by
      intro h
      apply hv
      unfold Utf8.valid
      simp
      omega
    have hE : Lib.encodeRuneZ c = [239, 191, 189] := by
      unfold Lib.encodeRuneZ
      rw [if_neg (by omega), if_neg (by omega), if_neg (by omega), if_neg (by omega)]
    rw [hE]
    simp only [hv, Bool.false_eq_true, if_false]
    decide +kernel

theorem grown_iter {B K : Nat} {W w1 : World} {v : Value} {acc : List Int} {s : ByteArray} {p : Nat} (hR : Kd.R (Kd.int .u8) 5 W B (fun _ => True) v acc) (hg : W.grownBy w1 v.ownBlock) (hk : W.heap[K]? = some (.stringIter s p)) : w1.heap[K]? = some (.stringIter s p) := by
  have hlt : K < W.heap.size := by
    obtain ⟨h, _⟩ := Array.getElem?_eq_some_iff.1 hk
    exact h
  rw [hg.block K hlt (fun e => by
    obtain ⟨cs, hc⟩ := Kd.R_typed hR K e.symm
    rw [hk] at hc
    cases hc)]
  exact hk
/-- What holds at the head of a word's round. -/
structure Wd (B K : Nat) (w wr : World) (s : ByteArray) (pos : Nat) (v : Value) (acc : List Int) (L : Nat) : Prop where
  row : Kd.R (Kd.int .u8) 5 wr B (fun _ => True) v acc
  it : wr.heap[K]? = some (.stringIter s pos)
  bel : Below B w wr
  len : acc.length ≤ L + 4 * pos
  pos : pos ≤ s.size
theorem Wd.iterAt {B K : Nat} {w wr : World} {s : ByteArray} {pos : Nat} {v : Value} {acc : List Int} {L : Nat} (h : Wd B K w wr s pos v acc L) (hB : B ≤ K) (p' : Nat) :
    Kd.R (Kd.int .u8) 5 (wr.iterAt K s p') B (fun _ => True) v acc ∧ (wr.iterAt K s p').heap[K]? = some (.stringIter s p') ∧ Below B w (wr.iterAt K s p') :=
  ⟨R_iter h.row h.it p', Lib.iterAt_heap wr K s pos p' h.it, Lib.below_iterAt h.bel (k := K) hB s p'⟩
def contW (rest : List ByteArray) : Option (List Int) → Option (List Int)
  | none => none
  | some a => backGo rest (a ++ [34])
end Go.Proofs.YtpnghpmgdekmgaaDoor.Q

import Derived.Test.YtpnghpmgdekmgaaDoorQ0
import Derived.OpenShut
import Derived.ChangeArms
import Derived.SliceStrings
import Derived.WalkKit
import Derived.ProofKit
namespace Go.Proofs.YtpnghpmgdekmgaaDoor.Q
open Go.RowKit Go.Proofs.YtpnghpmgdekmgaaDoorW.PrintWords Go.Proofs.YtpnghpmgdekmgaaDoorW.PrintLast Go.Proofs.YtpnghpmgdekmgaaDoorW.PrintMore
set_option linter.unusedVariables false
section
variable {H : Type} {enc : TypeId × Value → H} {P : Program} {w : World} {α : Type}
/-- Data of type t read as values of a kind, which are G. -/
def Op (enc : TypeId × Value → H) (P : Program) (w : World) (t : TypeId) (d : Kd α) (G : α → Prop) : Prop := ∀ (fuel : Nat) (cs : List Value) (x : DataW H × List MemPlace), DataW.trod enc P w 0 (fun _ => true) true fuel t cs = some x → ∃ y, d.K w y cs ∧ G y
theorem Op.int {t : TypeId} {k : IntKind} (ht : P.underlying t = some (.int k)) : Op enc P w t (Kd.int k) (fun n => (Lit.int k n).wf = true) := by
  intro fuel cs x h
  obtain ⟨n, rfl, _, hw⟩ := DataW.trod_int ht h
  exact ⟨n, rfl, hw⟩
theorem Op.string {t : TypeId} (ht : P.underlying t = some .string) : Op enc P w t Kd.string (fun s => s.size ≤ maxLen) := by
  intro fuel cs x h
  obtain ⟨s, rfl, _, hw⟩ := DataW.trod_string ht h
  exact ⟨s, rfl, hw⟩
theorem Op.mono {t : TypeId} {d : Kd α} {G G' : α → Prop} (h : Op enc P w t d G) (hg : ∀ x, G x → G' x) : Op enc P w t d G' := by
  intro fuel cs x hx
  obtain ⟨y, hy, hG⟩ := h fuel cs x hx
  exact ⟨y, hy, hg y hG⟩
theorem cells_at {a : Addr} {n : Nat} {cs : List Value} (h : w.cells? 0 a n = some cs) : cs.length = n ∧ ∀ i u, cs[i]? = some u → w.cell? (a.add i) = some u := by
  unfold World.cells? at h
  rw [if_pos (Nat.zero_le _)] at h
  have hl := mapM_some_length h
  refine ⟨by simpa using hl, fun i u hu => ?_⟩
  obtain ⟨hi, _⟩ := List.getElem?_eq_some_iff.1 hu
  have hi' : i < n := by rw [hl] at hi; simpa using hi
  have := mapM_some_get h i i (by simp [hi'])
  rw [this, hu]
theorem list_of {n : Nat} {R : Nat → α → Prop} (h : ∀ i, i < n → ∃ y, R i y) : ∃ xs : List α, xs.length = n ∧ ∀ i y, xs[i]? = some y → R i y := by
  induction n with
  | zero => exact ⟨[], rfl, by simp⟩
  | succ n ih =>
    obtain ⟨xs, hl, hx⟩ := ih (fun i hi => h i (by omega))
    obtain ⟨y, hy⟩ := h n (by omega)
    refine ⟨xs ++ [y], by simp [hl], fun i z hz => ?_⟩
    by_cases hi : i < n
    · rw [List.getElem?_append_left (by omega)] at hz
      exact hx i z hz
    · obtain ⟨hlt, _⟩ := List.getElem?_eq_some_iff.1 hz
      have hi2 : i = n := by simp [hl] at hlt; omega
      subst hi2
      rw [← hl, List.getElem?_append_right (Nat.le_refl _), Nat.sub_self] at hz
      obtain rfl : y = z := by simpa using hz
      exact hy
theorem Op.slice {t e : TypeId} {d : Kd α} {G : α → Prop} (ht : P.underlying t = some (.slice e)) (he : P.cellsOf e = d.sz) (h : Op enc P w e d G) : Op enc P w t (Kd.slice e d) (fun xs => xs.length ≤ maxLen ∧ ∀ x ∈ xs, G x) := by
  intro fuel cs x hx
  rcases DataW.trod_slice ht hx with ⟨rfl, _⟩ | ⟨a, len, cap, elems, rest, n, _, rfl, _, hb, hl, hm, hlen, hel, _, _⟩
  · exact ⟨[], ⟨none, 0, rfl, Nat.le_refl _, rfl, by simp, fun h0 => absurd h0 (Nat.lt_irrefl _)⟩, by simp⟩
  · obtain ⟨xs, hxl, hxs⟩ := list_of (n := len) (R := fun i y => (∃ c, c.length = d.sz ∧ d.K w y c ∧ ∀ j u, c[j]? = some u → w.cell? ((a.add (i * d.sz)).add j) = some u) ∧ G y) (fun i hi => by
      have h1 := hel i hi
      rw [List.getElem?_eq_getElem (by omega), Option.bind_eq_some_iff] at h1
      obtain ⟨cs', hc, hy⟩ := h1
      obtain ⟨y, hK, hG⟩ := h n cs' _ hy
      rw [he] at hc
      obtain ⟨hcl, hca⟩ := cells_at hc
      exact ⟨y, ⟨cs', hcl, hK, hca⟩, hG⟩)
    subst hxl
    refine ⟨xs, ⟨some a, cap, rfl, hl, rfl, by unfold maxLen at hm; omega, fun _ => ⟨a, rfl, fun j p hj => ?_⟩⟩, by omega, fun y hy => ?_⟩
    · obtain ⟨⟨c, h1, h2, h3⟩, _⟩ := hxs j p hj
      refine ⟨c, h1, h2, fun i u hu => ?_⟩
      have := h3 i u hu
      rw [Addr.add_add] at this
      exact this
    · obtain ⟨i, hi⟩ := List.getElem?_of_mem hy
      exact (hxs i y hi).2
/-- An argument that is a slice. -/
theorem Op.arg {t e : TypeId} {d : Kd α} {G : List α → Prop} (h : Op enc P w t (Kd.slice e d) G) {a : Option Addr} {len cap : Nat} {y : DataW H} {ps : List MemPlace} (hd : DataW.Trod enc P w 0 (fun _ => true) true t (.slice a len cap) y ps) : ∃ xs, len = xs.length ∧ xs.length ≤ cap ∧ d.C w a xs.length xs ∧ G xs := by
  obtain ⟨fuel, hf⟩ := hd
  obtain ⟨xs, ⟨A, c, hcs, hl, hC⟩, hG⟩ := h fuel _ _ hf
  have e1 : [Value.slice a len cap] = [Value.slice A xs.length c] := hcs
  injection e1 with e2 _
  injection e2 with e3 e4 e5
  subst e3 e4 e5
  exact ⟨xs, rfl, hl, hC, hG⟩
end
end Go.Proofs.YtpnghpmgdekmgaaDoor.Q

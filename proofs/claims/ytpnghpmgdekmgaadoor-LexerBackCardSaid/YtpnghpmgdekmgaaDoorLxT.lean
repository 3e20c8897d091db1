import Derived.Test.YtpnghpmgdekmgaaDoorQ0
import Derived.Lib.ValidLaws
import Derived.Lib.Bytes
import Derived.Lib.Hide
namespace Go.Proofs.YtpnghpmgdekmgaaDoor.Q
open Go.RowKit Go.Proofs.YtpnghpmgdekmgaaDoorW.PrintWords Go.Proofs.YtpnghpmgdekmgaaDoorW.PrintLast Go.Proofs.YtpnghpmgdekmgaaDoorW.PrintMore
set_option linter.unusedVariables false
set_option linter.unusedSimpArgs false

/-- The reference's look at a lead byte's runes: how long, which bytes, and whether it stands. -/
def utfOk (n : Nat) (len : Nat) (b0 b1 b2 b3 : Nat) : Prop :=
  n ≤ len ∧ (n < 2 ∨ (128 ≤ b1 ∧ b1 ≤ 191)) ∧ (n < 3 ∨ (128 ≤ b2 ∧ b2 ≤ 191)) ∧ (n < 4 ∨ (128 ≤ b3 ∧ b3 ≤ 191)) ∧
    ((n = 2 ∧ 128 + 128 ≤ (b0 - 192) * 64 + b1) ∨ (n = 3 ∧ 2048 + 8192 + 128 ≤ (b0 - 224) * 4096 + b1 * 64 + b2 ∧ ¬ (55296 + 8192 + 128 ≤ (b0 - 224) * 4096 + b1 * 64 + b2 ∧ (b0 - 224) * 4096 + b1 * 64 + b2 ≤ 57343 + 8192 + 128)) ∨
      (n = 4 ∧ 65536 + 524288 + 8192 + 128 ≤ (b0 - 240) * 262144 + b1 * 4096 + b2 * 64 + b3 ∧ (b0 - 240) * 262144 + b1 * 4096 + b2 * 64 + b3 ≤ 1114111 + 524288 + 8192 + 128))
def leadLen (b0 : Nat) : Nat := if 240 ≤ b0 then 4 else if 224 ≤ b0 then 3 else if 192 ≤ b0 then 2 else 1
theorem check_at (len b0 b1 b2 b3 F L : Nat) (h0 : 128 ≤ b0) (h1 : b0 < 256) (hF : Lib.firstT b0 = F) (hL : leadLen b0 = L)
    (h : (192 ≤ b0 ∧ utfOk L len b0 b1 b2 b3 ∧ Lib.checkN len b1 b2 b3 (F % 8) (Lib.accLo (F / 16)) (Lib.accHi (F / 16)) = some L) ∨
    (¬ (192 ≤ b0 ∧ utfOk L len b0 b1 b2 b3) ∧ Lib.checkN len b1 b2 b3 (F % 8) (Lib.accLo (F / 16)) (Lib.accHi (F / 16)) = none)) :
    (192 ≤ b0 ∧ utfOk (leadLen b0) len b0 b1 b2 b3 ∧ Lib.checkN len b1 b2 b3 (Lib.firstT b0 % 8) (Lib.accLo (Lib.firstT b0 / 16)) (Lib.accHi (Lib.firstT b0 / 16)) = some (leadLen b0)) ∨
    (¬ (192 ≤ b0 ∧ utfOk (leadLen b0) len b0 b1 b2 b3) ∧ Lib.checkN len b1 b2 b3 (Lib.firstT b0 % 8) (Lib.accLo (Lib.firstT b0 / 16)) (Lib.accHi (Lib.firstT b0 / 16)) = none) := by
  rw [hF, hL]; exact h
set_option maxHeartbeats 4000000 in
theorem check_utf (len b0 b1 b2 b3 : Nat) (h0 : 128 ≤ b0) (h1 : b0 < 256) :
    (192 ≤ b0 ∧ utfOk (leadLen b0) len b0 b1 b2 b3 ∧ Lib.checkN len b1 b2 b3 (Lib.firstT b0 % 8) (Lib.accLo (Lib.firstT b0 / 16)) (Lib.accHi (Lib.firstT b0 / 16)) = some (leadLen b0)) ∨
    (¬ (192 ≤ b0 ∧ utfOk (leadLen b0) len b0 b1 b2 b3) ∧ Lib.checkN len b1 b2 b3 (Lib.firstT b0 % 8) (Lib.accLo (Lib.firstT b0 / 16)) (Lib.accHi (Lib.firstT b0 / 16)) = none) := by
  have e : (b0 < 192) ∨ (192 ≤ b0 ∧ b0 < 194) ∨ (194 ≤ b0 ∧ b0 < 224) ∨ (b0 = 224) ∨ (225 ≤ b0 ∧ b0 < 237) ∨ (b0 = 237) ∨ (238 ≤ b0 ∧ b0 < 240) ∨ (b0 = 240) ∨ (241 ≤ b0 ∧ b0 < 244) ∨ (b0 = 244) ∨ (245 ≤ b0) := by omega
  rcases e with h | h | h | h | h | h | h | h | h | h | h
  · by_cases h2 : b0 < 128
    · omega
    · refine check_at len b0 b1 b2 b3 241 1 h0 h1 (by unfold Lib.firstT; (repeat' split) <;> omega) (by unfold leadLen; (repeat' split) <;> omega) ?_
      exact .inr ⟨fun h' => by omega, by trivial⟩
  · refine check_at len b0 b1 b2 b3 241 2 h0 h1 (by unfold Lib.firstT; (repeat' split) <;> omega) (by unfold leadLen; (repeat' split) <;> omega) ?_
    simp only [Lib.checkN, Lib.accLo, Lib.accHi, Nat.reduceMod, Nat.reduceDiv, Nat.reduceEqDiff, if_true, if_false, utfOk, false_and, true_and, or_false, false_or]
    exact .inr ⟨fun h' => by omega, by trivial⟩
  · refine check_at len b0 b1 b2 b3 2 2 h0 h1 (by unfold Lib.firstT; (repeat' split) <;> omega) (by unfold leadLen; (repeat' split) <;> omega) ?_
    simp only [Lib.checkN, Lib.accLo, Lib.accHi, Nat.reduceMod, Nat.reduceDiv, Nat.reduceEqDiff, if_true, if_false, utfOk, false_and, true_and, or_false, false_or]
    split
    · exact .inr ⟨fun h' => by omega, by trivial⟩
    · exact .inl ⟨by omega, by omega, by trivial⟩
  · refine check_at len b0 b1 b2 b3 19 3 h0 h1 (by unfold Lib.firstT; (repeat' split) <;> omega) (by unfold leadLen; (repeat' split) <;> omega) ?_
    simp only [Lib.checkN, Lib.accLo, Lib.accHi, Nat.reduceMod, Nat.reduceDiv, Nat.reduceEqDiff, if_true, if_false, utfOk, false_and, true_and, or_false, false_or]
    split
    · exact .inr ⟨fun h' => by omega, by trivial⟩
    · exact .inl ⟨by omega, by omega, by trivial⟩
  · refine check_at len b0 b1 b2 b3 3 3 h0 h1 (by unfold Lib.firstT; (repeat' split) <;> omega) (by unfold leadLen; (repeat' split) <;> omega) ?_
    simp only [Lib.checkN, Lib.accLo, Lib.accHi, Nat.reduceMod, Nat.reduceDiv, Nat.reduceEqDiff, if_true, if_false, utfOk, false_and, true_and, or_false, false_or]
    split
    · exact .inr ⟨fun h' => by omega, by trivial⟩
    · exact .inl ⟨by omega, by omega, by trivial⟩
  · refine check_at len b0 b1 b2 b3 35 3 h0 h1 (by unfold Lib.firstT; (repeat' split) <;> omega) (by unfold leadLen; (repeat' split) <;> omega) ?_
    simp only [Lib.checkN, Lib.accLo, Lib.accHi, Nat.reduceMod, Nat.reduceDiv, Nat.reduceEqDiff, if_true, if_false, utfOk, false_and, true_and, or_false, false_or]
    split
    · exact .inr ⟨fun h' => by omega, by trivial⟩
    · exact .inl ⟨by omega, by omega, by trivial⟩
  · refine check_at len b0 b1 b2 b3 3 3 h0 h1 (by unfold Lib.firstT; (repeat' split) <;> omega) (by unfold leadLen; (repeat' split) <;> omega) ?_
    simp only [Lib.checkN, Lib.accLo, Lib.accHi, Nat.reduceMod, Nat.reduceDiv, Nat.reduceEqDiff, if_true, if_false, utfOk, false_and, true_and, or_false, false_or]
    split
    · exact .inr ⟨fun h' => by omega, by trivial⟩
    · exact .inl ⟨by omega, by omega, by trivial⟩
  · refine check_at len b0 b1 b2 b3 52 4 h0 h1 (by unfold Lib.firstT; (repeat' split) <;> omega) (by unfold leadLen; (repeat' split) <;> omega) ?_
    simp only [Lib.checkN, Lib.accLo, Lib.accHi, Nat.reduceMod, Nat.reduceDiv, Nat.reduceEqDiff, if_true, if_false, utfOk, false_and, true_and, or_false, false_or]
    split
    · exact .inr ⟨fun h' => by omega, by trivial⟩
    · exact .inl ⟨by omega, by omega, by trivial⟩
  · refine check_at len b0 b1 b2 b3 4 4 h0 h1 (by unfold Lib.firstT; (repeat' split) <;> omega) (by unfold leadLen; (repeat' split) <;> omega) ?_
    simp only [Lib.checkN, Lib.accLo, Lib.accHi, Nat.reduceMod, Nat.reduceDiv, Nat.reduceEqDiff, if_true, if_false, utfOk, false_and, true_and, or_false, false_or]
    split
    · exact .inr ⟨fun h' => by omega, by trivial⟩
    · exact .inl ⟨by omega, by omega, by trivial⟩
  · refine check_at len b0 b1 b2 b3 68 4 h0 h1 (by unfold Lib.firstT; (repeat' split) <;> omega) (by unfold leadLen; (repeat' split) <;> omega) ?_
    simp only [Lib.checkN, Lib.accLo, Lib.accHi, Nat.reduceMod, Nat.reduceDiv, Nat.reduceEqDiff, if_true, if_false, utfOk, false_and, true_and, or_false, false_or]
    split
    · exact .inr ⟨fun h' => by omega, by trivial⟩
    · exact .inl ⟨by omega, by omega, by trivial⟩
  · refine check_at len b0 b1 b2 b3 241 4 h0 h1 (by unfold Lib.firstT; (repeat' split) <;> omega) (by unfold leadLen; (repeat' split) <;> omega) ?_
    simp only [Lib.checkN, Lib.accLo, Lib.accHi, Nat.reduceMod, Nat.reduceDiv, Nat.reduceEqDiff, if_true, if_false, utfOk, false_and, true_and, or_false, false_or]
    exact .inr ⟨fun h' => by omega, by trivial⟩

theorem validD_good (l : List UInt8) (hne : l ≠ []) (h0 : 128 ≤ (l.getD 0 0).toNat) (h1 : 192 ≤ (l.getD 0 0).toNat) (h : utfOk (leadLen (l.getD 0 0).toNat) l.length (l.getD 0 0).toNat (l.getD 1 0).toNat (l.getD 2 0).toNat (l.getD 3 0).toNat) : Lib.validD l = Lib.validD (l.drop (leadLen (l.getD 0 0).toNat)) := by
  rw [Lib.validD_lead l hne h0]
  rcases check_utf l.length (l.getD 0 0).toNat (l.getD 1 0).toNat (l.getD 2 0).toNat (l.getD 3 0).toNat h0 (l.getD 0 0).toNat_lt with ⟨_, _, e⟩ | ⟨e, _⟩
  · rw [e]
  · exact absurd ⟨h1, h⟩ e
theorem validD_bad (l : List UInt8) (hne : l ≠ []) (h0 : 128 ≤ (l.getD 0 0).toNat) (h : ¬ (192 ≤ (l.getD 0 0).toNat ∧ utfOk (leadLen (l.getD 0 0).toNat) l.length (l.getD 0 0).toNat (l.getD 1 0).toNat (l.getD 2 0).toNat (l.getD 3 0).toNat)) : Lib.validD l = false := by
  rw [Lib.validD_lead l hne h0]
  rcases check_utf l.length (l.getD 0 0).toNat (l.getD 1 0).toNat (l.getD 2 0).toNat (l.getD 3 0).toNat h0 (l.getD 0 0).toNat_lt with ⟨a, b, _⟩ | ⟨_, e⟩
  · exact absurd ⟨a, b⟩ h
  · rw [e]

/-- The bytes at a place of a list, as whole numbers. -/
def by4 (l0 : List Int) (i j : Nat) : Nat := (l0.getD (i + j) 0).toNat
theorem by4_eq (l0 : List Int) (hb : ∀ x ∈ l0, 0 ≤ x ∧ x < 256) (i j : Nat) : ((Lib.bytesOf (l0.drop i)).getD j 0).toNat = by4 l0 i j ∧ (by4 l0 i j : Int) = l0.getD (i + j) 0 ∧ by4 l0 i j < 256 := by
  unfold by4 Lib.bytesOf
  have e : ∀ n : Fin 256, ((UInt8.ofNat n.val).toNat) = n.val := by decide +kernel
  rw [List.getD_eq_getElem?_getD, List.getD_eq_getElem?_getD, List.getElem?_map, List.getElem?_drop]
  cases hq : l0[i + j]? with
  | none => exact ⟨rfl, rfl, by decide⟩
  | some x =>
    have hx := hb x (List.mem_of_getElem? hq)
    have e' := e ⟨x.toNat, by omega⟩
    simp only [Option.map_some, Option.getD_some] at *
    exact ⟨e', by omega, by omega⟩
theorem step1 (l0 : List Int) (hb : ∀ x ∈ l0, 0 ≤ x ∧ x < 256) (i : Nat) (hi : i < l0.length) (h : by4 l0 i 0 < 128) : Lib.validD (Lib.bytesOf (l0.drop i)) = Lib.validD (Lib.bytesOf (l0.drop (i + 1))) := by
  have h1 := (by4_eq l0 hb i 0).1
  rw [List.drop_eq_getElem_cons hi] at h1 ⊢
  show Lib.validD (_ :: Lib.bytesOf (l0.drop (i + 1))) = _
  refine Lib.validD_cons _ _ ?_
  rw [← h1] at h
  exact h
theorem drop_ne (l0 : List Int) (i : Nat) (hi : i < l0.length) : Lib.bytesOf (l0.drop i) ≠ [] := by
  rw [List.drop_eq_getElem_cons hi]
  intro h; cases h
theorem bytesOf_len (l : List Int) : (Lib.bytesOf l).length = l.length := by simp [Lib.bytesOf]
theorem bytesOf_drop (l : List Int) (n : Nat) : (Lib.bytesOf l).drop n = Lib.bytesOf (l.drop n) := by simp [Lib.bytesOf, List.map_drop]
theorem stepN (l0 : List Int) (hb : ∀ x ∈ l0, 0 ≤ x ∧ x < 256) (i : Nat) (hi : i < l0.length) (h0 : 192 ≤ by4 l0 i 0) (h : utfOk (leadLen (by4 l0 i 0)) (l0.length - i) (by4 l0 i 0) (by4 l0 i 1) (by4 l0 i 2) (by4 l0 i 3)) :
    Lib.validD (Lib.bytesOf (l0.drop i)) = Lib.validD (Lib.bytesOf (l0.drop (i + leadLen (by4 l0 i 0)))) := by
  have e0 := (by4_eq l0 hb i 0).1
  have e1 := (by4_eq l0 hb i 1).1
  have e2 := (by4_eq l0 hb i 2).1
  have e3 := (by4_eq l0 hb i 3).1
  have hg := validD_good (Lib.bytesOf (l0.drop i)) (drop_ne l0 i hi) (by rw [e0]; omega) (by rw [e0]; omega) (by rw [e0, e1, e2, e3, bytesOf_len, List.length_drop]; exact h)
  rw [hg, e0, bytesOf_drop, List.drop_drop]
theorem stepBad (l0 : List Int) (hb : ∀ x ∈ l0, 0 ≤ x ∧ x < 256) (i : Nat) (hi : i < l0.length) (h0 : 128 ≤ by4 l0 i 0) (h : ¬ (192 ≤ by4 l0 i 0 ∧ utfOk (leadLen (by4 l0 i 0)) (l0.length - i) (by4 l0 i 0) (by4 l0 i 1) (by4 l0 i 2) (by4 l0 i 3))) :
    Lib.validD (Lib.bytesOf (l0.drop i)) = false := by
  have e0 := (by4_eq l0 hb i 0).1
  have e1 := (by4_eq l0 hb i 1).1
  have e2 := (by4_eq l0 hb i 2).1
  have e3 := (by4_eq l0 hb i 3).1
  exact validD_bad (Lib.bytesOf (l0.drop i)) (drop_ne l0 i hi) (by rw [e0]; omega) (by rw [e0, e1, e2, e3, bytesOf_len, List.length_drop]; exact h)
end Go.Proofs.YtpnghpmgdekmgaaDoor.Q

-- WRITTEN BY A PROGRAM of this session (wip/tools/mp.py) over the kit's print.
import Derived.Test.YtpnghpmgdekmgaaDoorQ0
import Derived.Test.YtpnghpmgdekmgaaDoorQf22
namespace Go.Proofs.YtpnghpmgdekmgaaDoor.Q
open Go.RowKit Go.Proofs.YtpnghpmgdekmgaaDoorW.PrintWords Go.Proofs.YtpnghpmgdekmgaaDoorW.PrintLast Go.Proofs.YtpnghpmgdekmgaaDoorW.PrintMore
attribute [local go_sem] max2_int min2_int max_two min_two max_three min_three max_four min_four   -- for this text's walks alone
set_option linter.unusedVariables false
set_option linter.unusedSimpArgs false

/-! ### murmurationref13_quoted: function 21 -/
def murmurationref13_quoted.l0 : Nat → List Int → ByteArray → Int → Option (ByteArray × Int × Bool)
  | 0, _, _, _ => none
  | k + 1, x0, x7, x8 => if x8 < (x0.length : Int) then (if 0 ≤ x8 then (if (rd x0 x8) = 34 then (if (wrap64 (x8 + 1)) = (x0.length : Int) then (some (x7, wrap64 (x8 + 1), true)) else (if 0 ≤ (wrap64 (x8 + 1)) then (if (wrap64 (x8 + 1)) < (x0.length : Int) then (if (rd x0 (wrap64 (x8 + 1))) = 32 then (some (x7, wrap64 (x8 + 1), true)) else (if (rd x0 (wrap64 (x8 + 1))) = 9 then (some (x7, wrap64 (x8 + 1), true)) else (some (x7, wrap64 (x8 + 1), ((rd x0 (wrap64 (x8 + 1))) == 35))))) else (none)) else (none))) else (if (rd x0 x8) = 92 then (if (wrap64 (x8 + 1)) = (x0.length : Int) then (some ((⟨#[]⟩ : ByteArray), 0, false)) else (if 0 ≤ (wrap64 (x8 + 1)) then (if (wrap64 (x8 + 1)) < (x0.length : Int) then (if (rd x0 (wrap64 (x8 + 1))) = 110 then (if x7.size + 1 ≤ 9223372036854775807 then (murmurationref13_quoted.l0 k x0 (x7 ++ (⟨#[10]⟩ : ByteArray)) (wrap64 ((wrap64 (x8 + 1)) + 1))) else (none)) else (if (rd x0 (wrap64 (x8 + 1))) = 34 then (if (wrap64 (x8 + 1)) ≤ (wrap64 ((wrap64 (x8 + 1)) + 1)) then (if (wrap64 ((wrap64 (x8 + 1)) + 1)) ≤ (x0.length : Int) then (if x7.size + (strOfNums ((x0.take ((wrap64 ((wrap64 (x8 + 1)) + 1)) : Int).toNat).drop ((wrap64 (x8 + 1)) : Int).toNat)).size ≤ 9223372036854775807 then (murmurationref13_quoted.l0 k x0 (x7 ++ (strOfNums ((x0.take ((wrap64 ((wrap64 (x8 + 1)) + 1)) : Int).toNat).drop ((wrap64 (x8 + 1)) : Int).toNat))) (wrap64 ((wrap64 (x8 + 1)) + 1))) else (none)) else (none)) else (none)) else (if (rd x0 (wrap64 (x8 + 1))) = 92 then (if (wrap64 (x8 + 1)) ≤ (wrap64 ((wrap64 (x8 + 1)) + 1)) then (if (wrap64 ((wrap64 (x8 + 1)) + 1)) ≤ (x0.length : Int) then (if x7.size + (strOfNums ((x0.take ((wrap64 ((wrap64 (x8 + 1)) + 1)) : Int).toNat).drop ((wrap64 (x8 + 1)) : Int).toNat)).size ≤ 9223372036854775807 then (murmurationref13_quoted.l0 k x0 (x7 ++ (strOfNums ((x0.take ((wrap64 ((wrap64 (x8 + 1)) + 1)) : Int).toNat).drop ((wrap64 (x8 + 1)) : Int).toNat))) (wrap64 ((wrap64 (x8 + 1)) + 1))) else (none)) else (none)) else (none)) else (some ((⟨#[]⟩ : ByteArray), 0, false))))) else (none)) else (none))) else ((murmurationref13_ctrl.f (rd x0 x8)).bind fun t108 => (if t108 = true then (some ((⟨#[]⟩ : ByteArray), 0, false)) else (if x8 ≤ (wrap64 (x8 + 1)) then (if (wrap64 (x8 + 1)) ≤ (x0.length : Int) then (if x7.size + (strOfNums ((x0.take ((wrap64 (x8 + 1)) : Int).toNat).drop (x8 : Int).toNat)).size ≤ 9223372036854775807 then (murmurationref13_quoted.l0 k x0 (x7 ++ (strOfNums ((x0.take ((wrap64 (x8 + 1)) : Int).toNat).drop (x8 : Int).toNat))) (wrap64 (x8 + 1))) else (none)) else (none)) else (none)))))) else (none)) else (some ((⟨#[]⟩ : ByteArray), 0, false))
def murmurationref13_quoted.f (k : Nat) (l0 : List Int) (a1 : Int) : Option (ByteArray × Int × Bool) := murmurationref13_quoted.l0 k l0 (⟨#[]⟩ : ByteArray) (wrap64 (a1 + 1))
theorem murmurationref13_quoted.mono_l : ∀ k, (∀ y0 y1 y2, LeO (murmurationref13_quoted.l0 k y0 y1 y2) (murmurationref13_quoted.l0 (k + 1) y0 y1 y2))
  | 0 => fun _ _ _ r h => by simp [murmurationref13_quoted.l0] at h
  | k + 1 => by
    have ih0 := murmurationref13_quoted.mono_l k
    · intro y0 y1 y2
      unfold murmurationref13_quoted.l0
      repeat' first
      | (with_reducible exact ih0 _ _ _)
      | (with_reducible exact LeO.refl _)
      | (with_reducible exact LeO.none _)
      | (with_reducible refine LeO.ite ?_ ?_)
      | (with_reducible refine LeO.bind ?_ (fun _ => ?_))
      | exact ih0 _ _ _
      | exact LeO.none _
      | refine LeO.ite ?_ ?_
      | refine LeO.bind ?_ (fun _ => ?_)
theorem murmurationref13_quoted.mono : ∀ a0 a1 k, LeO (murmurationref13_quoted.f k a0 a1) (murmurationref13_quoted.f (k + 1) a0 a1) := by
  intro a0 a1 k
  have ih0 := murmurationref13_quoted.mono_l k
  unfold murmurationref13_quoted.f
  repeat' first
      | (with_reducible exact ih0 _ _ _)
      | (with_reducible exact LeO.refl _)
      | (with_reducible exact LeO.none _)
      | (with_reducible refine LeO.ite ?_ ?_)
      | (with_reducible refine LeO.bind ?_ (fun _ => ?_))
      | exact ih0 _ _ _
      | exact LeO.none _
      | refine LeO.ite ?_ ?_
      | refine LeO.bind ?_ (fun _ => ?_)
set_option maxHeartbeats 8000000 in
set_option maxRecDepth 100000 in
theorem murmurationref13_quoted.calls (k : Nat) (A0 : Option Addr) (c0 : Nat) (l0 : List Int) (a1 : Int) (r1 : ByteArray) (r2 : Int) (r3 : Bool) (w : World) (hr0 : Kd.C (Kd.int .u8) w A0 l0.length l0) (hc0 : l0.length ≤ c0) (h : murmurationref13_quoted.f k l0 a1 = some (r1, r2, r3)) :
    Calls Tryd.prog 21 #[.slice A0 l0.length c0, .int .i64 a1] w fun e w' => e = .returned (.tuple #[.string r1, .int .i64 r2, .bool r3]) ∧ Drawn0 w w' := by
  have HR0 := Aside0.mk hr0
  have HC0 := Aside0.mk hc0
  clear hr0 hc0
  have H : (murmurationref13_quoted.l0 k l0 (⟨#[]⟩ : ByteArray) (wrap64 (a1 + 1))) = some (r1, r2, r3) := h
  clear h
  have H' := Aside0.mk H
  clear H
  go_enter Tryd.func21, Tryd.ntmps21
  go_wp2
  go_loopg [7, 8] k (fun kq v7 v8 w' => ∃ (x7_1 : ByteArray) (x8_1 : Int), v7 = .string x7_1 ∧ v8 = .int .i64 x8_1 ∧ Aside0 (murmurationref13_quoted.l0 kq l0 x7_1 x8_1 = some (r1, r2, r3)) ∧ Aside0 (kq ≤ k) ∧ Drawn0 w w')
  case atStart => exact ⟨((⟨#[]⟩ : ByteArray)), (wrap64 (a1 + 1)), (by first | rfl | (simp; done) | (simp [*]; done)), (by first | rfl | (simp; done) | (simp [*]; done)), H', ⟨Nat.le_refl _⟩, by repeat (first | exact Drawn0.refl _ | apply Drawn0.step)⟩
  case round =>
    clear H'
    try clear c2
    try clear p2
    obtain ⟨x7_1, x8_1, rfl, rfl, HA, HK1, ⟨m1, rfl⟩⟩ := hrel
    cases gk with
    | zero => exact absurd HA.out (by simp [murmurationref13_quoted.l0])
    | succ k1 =>
      have H := HA.out
      clear HA
      simp only [murmurationref13_quoted.l0] at H
      by_cases c3 : x8_1 < (l0.length : Int)
      · rw [if_pos c3] at H
        have c3b0 : decide (x8_1 < (l0.length : Int)) = true := decide_eq_true c3
        clear c3
        by_cases c4 : 0 ≤ x8_1
        · rw [if_pos c4] at H
          have c4b0 : decide (0 ≤ x8_1) = true := decide_eq_true c4
          clear c4
          by_cases c5 : (rd l0 x8_1) = 34
          · rw [if_pos c5] at H
            have c5b0 : ((rd l0 x8_1) == 34) = true := beq_iff_eq.mpr c5
            have c5b1 : ((rd l0 x8_1) != 34) = false := bne_eq_false_iff_eq.mpr c5
            clear c5
            by_cases c6 : (wrap64 (x8_1 + 1)) = (l0.length : Int)
            · rw [if_pos c6] at H
              have c6b0 : ((wrap64 (x8_1 + 1)) == (l0.length : Int)) = true := beq_iff_eq.mpr c6
              have c6b1 : ((wrap64 (x8_1 + 1)) != (l0.length : Int)) = false := bne_eq_false_iff_eq.mpr c6
              clear c6
              simp only [Option.some.injEq, Prod.mk.injEq] at H
              obtain ⟨rfl, rfl, rfl⟩ := H
              have p101 : 0 ≤ (x8_1 : Int) := of_decide_eq_true (by first | (with_reducible assumption) | assumption)
              have q101 : x8_1 < (l0.length : Int) := of_decide_eq_true (by first | (with_reducible assumption) | assumption)
              obtain ⟨ad101, e101, hx101_0⟩ := Kd.at_int HR0.out x8_1 p101 q101
              cases e101
              replace p101 := eq_true p101
              replace q101 := eq_true q101
              go_wp2
              go_ret3
              exact ⟨by first | rfl | (simp; done) | (simp [*]; done), by repeat (first | exact Drawn0.refl _ | apply Drawn0.step)⟩
            · rw [if_neg c6] at H
              have c6b0 : ((wrap64 (x8_1 + 1)) == (l0.length : Int)) = false := beq_eq_false_iff_ne.mpr c6
              have c6b1 : ((wrap64 (x8_1 + 1)) != (l0.length : Int)) = true := bne_iff_ne.mpr c6
              obtain ⟨ji7, hji7⟩ : ∃ j_ : Int, (wrap64 (x8_1 + 1)) = j_ := ⟨_, rfl⟩
              replace H : (if 0 ≤ (ji7) then (if (ji7) < (l0.length : Int) then (if (rd l0 (ji7)) = 32 then (some (x7_1, ji7, true)) else (if (rd l0 (ji7)) = 9 then (some (x7_1, ji7, true)) else (some (x7_1, ji7, ((rd l0 (ji7)) == 35))))) else (none)) else (none)) = some (r1, r2, r3) := by first | (rw [hji7] at H; exact H) | (simp only [hji7] at H ⊢; exact H)
              (try rw [hji7] at c6b0)
              (try rw [hji7] at c6b1)
              have hji7w : (IntKind.i64.wrap (x8_1 + 1)) = ji7 := (i64_w _).trans hji7
              by_cases c8 : 0 ≤ (ji7)
              · rw [if_pos c8] at H
                have c8b0 : decide (0 ≤ (ji7)) = true := decide_eq_true c8
                clear c8
                by_cases c9 : (ji7) < (l0.length : Int)
                · rw [if_pos c9] at H
                  have c9b0 : decide ((ji7) < (l0.length : Int)) = true := decide_eq_true c9
                  clear c9
                  by_cases c10 : (rd l0 (ji7)) = 32
                  · rw [if_pos c10] at H
                    have c10b0 : ((rd l0 (ji7)) == 32) = true := beq_iff_eq.mpr c10
                    have c10b1 : ((rd l0 (ji7)) != 32) = false := bne_eq_false_iff_eq.mpr c10
                    clear c10
                    simp only [Option.some.injEq, Prod.mk.injEq] at H
                    obtain ⟨rfl, rfl, rfl⟩ := H
                    have p101 : 0 ≤ (x8_1 : Int) := of_decide_eq_true (by first | (with_reducible assumption) | assumption)
                    have q101 : x8_1 < (l0.length : Int) := of_decide_eq_true (by first | (with_reducible assumption) | assumption)
                    obtain ⟨ad101, e101, hx101_0⟩ := Kd.at_int HR0.out x8_1 p101 q101
                    cases e101
                    replace p101 := eq_true p101
                    replace q101 := eq_true q101
                    have p102 : 0 ≤ ((ji7) : Int) := of_decide_eq_true (by first | (with_reducible assumption) | assumption)
                    have q102 : (ji7) < (l0.length : Int) := of_decide_eq_true (by first | (with_reducible assumption) | assumption)
                    obtain ⟨ad102, e102, hx102_0⟩ := Kd.at_int HR0.out (ji7) p102 q102
                    obtain rfl : ad101 = ad102 := (by injection e102)
                    replace p102 := eq_true p102
                    replace q102 := eq_true q102
                    go_wp2
                    go_ret3
                    exact ⟨by first | rfl | (simp; done) | (simp only [← hji7] <;> (first | rfl | simp)) | (simp [*]; done), by repeat (first | exact Drawn0.refl _ | apply Drawn0.step)⟩
                  · rw [if_neg c10] at H
                    have c10b0 : ((rd l0 (ji7)) == 32) = false := beq_eq_false_iff_ne.mpr c10
                    have c10b1 : ((rd l0 (ji7)) != 32) = true := bne_iff_ne.mpr c10
                    by_cases c11 : (rd l0 (ji7)) = 9
                    · rw [if_pos c11] at H
                      have c11b0 : ((rd l0 (ji7)) == 9) = true := beq_iff_eq.mpr c11
                      have c11b1 : ((rd l0 (ji7)) != 9) = false := bne_eq_false_iff_eq.mpr c11
                      clear c11
                      simp only [Option.some.injEq, Prod.mk.injEq] at H
                      obtain ⟨rfl, rfl, rfl⟩ := H
                      have p101 : 0 ≤ (x8_1 : Int) := of_decide_eq_true (by first | (with_reducible assumption) | assumption)
                      have q101 : x8_1 < (l0.length : Int) := of_decide_eq_true (by first | (with_reducible assumption) | assumption)
                      obtain ⟨ad101, e101, hx101_0⟩ := Kd.at_int HR0.out x8_1 p101 q101
                      cases e101
                      replace p101 := eq_true p101
                      replace q101 := eq_true q101
                      have p102 : 0 ≤ ((ji7) : Int) := of_decide_eq_true (by first | (with_reducible assumption) | assumption)
                      have q102 : (ji7) < (l0.length : Int) := of_decide_eq_true (by first | (with_reducible assumption) | assumption)
                      obtain ⟨ad102, e102, hx102_0⟩ := Kd.at_int HR0.out (ji7) p102 q102
                      obtain rfl : ad101 = ad102 := (by injection e102)
                      replace p102 := eq_true p102
                      replace q102 := eq_true q102
                      have p103 : 0 ≤ ((ji7) : Int) := of_decide_eq_true (by first | (with_reducible assumption) | assumption)
                      have q103 : (ji7) < (l0.length : Int) := of_decide_eq_true (by first | (with_reducible assumption) | assumption)
                      obtain ⟨ad103, e103, hx103_0⟩ := Kd.at_int HR0.out (ji7) p103 q103
                      obtain rfl : ad101 = ad103 := (by injection e103)
                      replace p103 := eq_true p103
                      replace q103 := eq_true q103
                      go_wp2
                      go_ret3
                      exact ⟨by first | rfl | (simp; done) | (simp only [← hji7] <;> (first | rfl | simp)) | (simp [*]; done), by repeat (first | exact Drawn0.refl _ | apply Drawn0.step)⟩
                    · rw [if_neg c11] at H
                      have c11b0 : ((rd l0 (ji7)) == 9) = false := beq_eq_false_iff_ne.mpr c11
                      have c11b1 : ((rd l0 (ji7)) != 9) = true := bne_iff_ne.mpr c11
                      simp only [Option.some.injEq, Prod.mk.injEq] at H
                      obtain ⟨rfl, rfl, rfl⟩ := H
                      have p101 : 0 ≤ (x8_1 : Int) := of_decide_eq_true (by first | (with_reducible assumption) | assumption)
                      have q101 : x8_1 < (l0.length : Int) := of_decide_eq_true (by first | (with_reducible assumption) | assumption)
                      obtain ⟨ad101, e101, hx101_0⟩ := Kd.at_int HR0.out x8_1 p101 q101
                      cases e101
                      replace p101 := eq_true p101
                      replace q101 := eq_true q101
                      have p102 : 0 ≤ ((ji7) : Int) := of_decide_eq_true (by first | (with_reducible assumption) | assumption)
                      have q102 : (ji7) < (l0.length : Int) := of_decide_eq_true (by first | (with_reducible assumption) | assumption)
                      obtain ⟨ad102, e102, hx102_0⟩ := Kd.at_int HR0.out (ji7) p102 q102
                      obtain rfl : ad101 = ad102 := (by injection e102)
                      replace p102 := eq_true p102
                      replace q102 := eq_true q102
                      have p103 : 0 ≤ ((ji7) : Int) := of_decide_eq_true (by first | (with_reducible assumption) | assumption)
                      have q103 : (ji7) < (l0.length : Int) := of_decide_eq_true (by first | (with_reducible assumption) | assumption)
                      obtain ⟨ad103, e103, hx103_0⟩ := Kd.at_int HR0.out (ji7) p103 q103
                      obtain rfl : ad101 = ad103 := (by injection e103)
                      replace p103 := eq_true p103
                      replace q103 := eq_true q103
                      have p104 : 0 ≤ ((ji7) : Int) := of_decide_eq_true (by first | (with_reducible assumption) | assumption)
                      have q104 : (ji7) < (l0.length : Int) := of_decide_eq_true (by first | (with_reducible assumption) | assumption)
                      obtain ⟨ad104, e104, hx104_0⟩ := Kd.at_int HR0.out (ji7) p104 q104
                      obtain rfl : ad101 = ad104 := (by injection e104)
                      replace p104 := eq_true p104
                      replace q104 := eq_true q104
                      go_wp2
                      go_ret3
                      exact ⟨by first | rfl | (simp; done) | (simp only [← hji7] <;> (first | rfl | simp)) | (simp [*]; done), by repeat (first | exact Drawn0.refl _ | apply Drawn0.step)⟩
                · rw [if_neg c9] at H
                  exact absurd H (by simp)
              · rw [if_neg c8] at H
                exact absurd H (by simp)
          · rw [if_neg c5] at H
            have c5b0 : ((rd l0 x8_1) == 34) = false := beq_eq_false_iff_ne.mpr c5
            have c5b1 : ((rd l0 x8_1) != 34) = true := bne_iff_ne.mpr c5
            by_cases c12 : (rd l0 x8_1) = 92
            · rw [if_pos c12] at H
              have c12b0 : ((rd l0 x8_1) == 92) = true := beq_iff_eq.mpr c12
              have c12b1 : ((rd l0 x8_1) != 92) = false := bne_eq_false_iff_eq.mpr c12
              clear c12
              by_cases c13 : (wrap64 (x8_1 + 1)) = (l0.length : Int)
              · rw [if_pos c13] at H
                have c13b0 : ((wrap64 (x8_1 + 1)) == (l0.length : Int)) = true := beq_iff_eq.mpr c13
                have c13b1 : ((wrap64 (x8_1 + 1)) != (l0.length : Int)) = false := bne_eq_false_iff_eq.mpr c13
                clear c13
                simp only [Option.some.injEq, Prod.mk.injEq] at H
                obtain ⟨rfl, rfl, rfl⟩ := H
                have p101 : 0 ≤ (x8_1 : Int) := of_decide_eq_true (by first | (with_reducible assumption) | assumption)
                have q101 : x8_1 < (l0.length : Int) := of_decide_eq_true (by first | (with_reducible assumption) | assumption)
                obtain ⟨ad101, e101, hx101_0⟩ := Kd.at_int HR0.out x8_1 p101 q101
                cases e101
                replace p101 := eq_true p101
                replace q101 := eq_true q101
                go_wp2
                go_ret3
                exact ⟨by first | rfl | (simp; done) | (simp [*]; done), by repeat (first | exact Drawn0.refl _ | apply Drawn0.step)⟩
              · rw [if_neg c13] at H
                have c13b0 : ((wrap64 (x8_1 + 1)) == (l0.length : Int)) = false := beq_eq_false_iff_ne.mpr c13
                have c13b1 : ((wrap64 (x8_1 + 1)) != (l0.length : Int)) = true := bne_iff_ne.mpr c13
                obtain ⟨ji14, hji14⟩ : ∃ j_ : Int, (wrap64 (x8_1 + 1)) = j_ := ⟨_, rfl⟩
                replace H : (if 0 ≤ (ji14) then (if (ji14) < (l0.length : Int) then (if (rd l0 (ji14)) = 110 then (if x7_1.size + 1 ≤ 9223372036854775807 then (murmurationref13_quoted.l0 k1 l0 (x7_1 ++ (⟨#[10]⟩ : ByteArray)) (wrap64 ((ji14) + 1))) else (none)) else (if (rd l0 (ji14)) = 34 then (if (ji14) ≤ (wrap64 ((ji14) + 1)) then (if (wrap64 ((ji14) + 1)) ≤ (l0.length : Int) then (if x7_1.size + (strOfNums ((l0.take ((wrap64 ((ji14) + 1)) : Int).toNat).drop ((ji14) : Int).toNat)).size ≤ 9223372036854775807 then (murmurationref13_quoted.l0 k1 l0 (x7_1 ++ (strOfNums ((l0.take ((wrap64 ((ji14) + 1)) : Int).toNat).drop ((ji14) : Int).toNat))) (wrap64 ((ji14) + 1))) else (none)) else (none)) else (none)) else (if (rd l0 (ji14)) = 92 then (if (ji14) ≤ (wrap64 ((ji14) + 1)) then (if (wrap64 ((ji14) + 1)) ≤ (l0.length : Int) then (if x7_1.size + (strOfNums ((l0.take ((wrap64 ((ji14) + 1)) : Int).toNat).drop ((ji14) : Int).toNat)).size ≤ 9223372036854775807 then (murmurationref13_quoted.l0 k1 l0 (x7_1 ++ (strOfNums ((l0.take ((wrap64 ((ji14) + 1)) : Int).toNat).drop ((ji14) : Int).toNat))) (wrap64 ((ji14) + 1))) else (none)) else (none)) else (none)) else (some ((⟨#[]⟩ : ByteArray), 0, false))))) else (none)) else (none)) = some (r1, r2, r3) := by first | (rw [hji14] at H; exact H) | (simp only [hji14] at H ⊢; exact H)
                (try rw [hji14] at c13b0)
                (try rw [hji14] at c13b1)
                have hji14w : (IntKind.i64.wrap (x8_1 + 1)) = ji14 := (i64_w _).trans hji14
                by_cases c15 : 0 ≤ (ji14)
                · rw [if_pos c15] at H
                  have c15b0 : decide (0 ≤ (ji14)) = true := decide_eq_true c15
                  clear c15
                  by_cases c16 : (ji14) < (l0.length : Int)
                  · rw [if_pos c16] at H
                    have c16b0 : decide ((ji14) < (l0.length : Int)) = true := decide_eq_true c16
                    clear c16
                    by_cases c17 : (rd l0 (ji14)) = 110
                    · rw [if_pos c17] at H
                      have c17b0 : ((rd l0 (ji14)) == 110) = true := beq_iff_eq.mpr c17
                      have c17b1 : ((rd l0 (ji14)) != 110) = false := bne_eq_false_iff_eq.mpr c17
                      clear c17
                      by_cases c18 : x7_1.size + 1 ≤ 9223372036854775807
                      · rw [if_pos c18] at H
                        have c18b0 := eq_true c18
                        have c18b1 : decide (x7_1.size + 1 ≤ 9223372036854775807) = true := decide_eq_true c18
                        try have c18b2 : (9223372036854775807 < x7_1.size + 1) = False := eq_false (Nat.not_lt.2 c18)
                        have H' := Aside0.mk H
                        clear H
                        have p101 : 0 ≤ (x8_1 : Int) := of_decide_eq_true (by first | (with_reducible assumption) | assumption)
                        have q101 : x8_1 < (l0.length : Int) := of_decide_eq_true (by first | (with_reducible assumption) | assumption)
                        obtain ⟨ad101, e101, hx101_0⟩ := Kd.at_int HR0.out x8_1 p101 q101
                        cases e101
                        replace p101 := eq_true p101
                        replace q101 := eq_true q101
                        have p105 : 0 ≤ ((ji14) : Int) := of_decide_eq_true (by first | (with_reducible assumption) | assumption)
                        have q105 : (ji14) < (l0.length : Int) := of_decide_eq_true (by first | (with_reducible assumption) | assumption)
                        obtain ⟨ad105, e105, hx105_0⟩ := Kd.at_int HR0.out (ji14) p105 q105
                        obtain rfl : ad101 = ad105 := (by injection e105)
                        replace p105 := eq_true p105
                        replace q105 := eq_true q105
                        go_wp2
                        go_roundg k1
                        case measure => have := HK1.out; omega
                        case rel => exact ⟨(x7_1 ++ (⟨#[10]⟩ : ByteArray)), (wrap64 ((ji14) + 1)), (by first | rfl | (simp; done) | (simp [*]; done)), (by first | rfl | (simp; done) | (simp only [← hji14] <;> (first | rfl | simp)) | (simp [*]; done)), H', ⟨by have := HK1.out; omega⟩, by repeat (first | exact Drawn0.refl _ | apply Drawn0.step)⟩
                      · rw [if_neg c18] at H
                        exact absurd H (by simp)
                    · rw [if_neg c17] at H
                      have c17b0 : ((rd l0 (ji14)) == 110) = false := beq_eq_false_iff_ne.mpr c17
                      have c17b1 : ((rd l0 (ji14)) != 110) = true := bne_iff_ne.mpr c17
                      by_cases c19 : (rd l0 (ji14)) = 34
                      · rw [if_pos c19] at H
                        have c19b0 : ((rd l0 (ji14)) == 34) = true := beq_iff_eq.mpr c19
                        have c19b1 : ((rd l0 (ji14)) != 34) = false := bne_eq_false_iff_eq.mpr c19
                        clear c19
                        have c20b0 := eq_true (of_decide_eq_true (by first | (with_reducible assumption) | assumption) : 0 ≤ (ji14))
                        by_cases c21 : (ji14) ≤ (wrap64 ((ji14) + 1))
                        · rw [if_pos c21] at H
                          have c21b0 := eq_true c21
                          have c21b1 : decide ((ji14) ≤ (wrap64 ((ji14) + 1))) = true := decide_eq_true c21
                          by_cases c22 : (wrap64 ((ji14) + 1)) ≤ (l0.length : Int)
                          · rw [if_pos c22] at H
                            have c22b0 := eq_true c22
                            have c22b1 : decide ((wrap64 ((ji14) + 1)) ≤ (l0.length : Int)) = true := decide_eq_true c22
                            by_cases c23 : x7_1.size + (strOfNums ((l0.take ((wrap64 ((ji14) + 1)) : Int).toNat).drop ((ji14) : Int).toNat)).size ≤ 9223372036854775807
                            · rw [if_pos c23] at H
                              have c23b0 := eq_true c23
                              have c23b1 : decide (x7_1.size + (strOfNums ((l0.take ((wrap64 ((ji14) + 1)) : Int).toNat).drop ((ji14) : Int).toNat)).size ≤ 9223372036854775807) = true := decide_eq_true c23
                              try have c23b2 : (9223372036854775807 < x7_1.size + (strOfNums ((l0.take ((wrap64 ((ji14) + 1)) : Int).toNat).drop ((ji14) : Int).toNat)).size) = False := eq_false (Nat.not_lt.2 c23)
                              have H' := Aside0.mk H
                              clear H
                              have p101 : 0 ≤ (x8_1 : Int) := of_decide_eq_true (by first | (with_reducible assumption) | assumption)
                              have q101 : x8_1 < (l0.length : Int) := of_decide_eq_true (by first | (with_reducible assumption) | assumption)
                              obtain ⟨ad101, e101, hx101_0⟩ := Kd.at_int HR0.out x8_1 p101 q101
                              cases e101
                              replace p101 := eq_true p101
                              replace q101 := eq_true q101
                              have p105 : 0 ≤ ((ji14) : Int) := of_decide_eq_true (by first | (with_reducible assumption) | assumption)
                              have q105 : (ji14) < (l0.length : Int) := of_decide_eq_true (by first | (with_reducible assumption) | assumption)
                              obtain ⟨ad105, e105, hx105_0⟩ := Kd.at_int HR0.out (ji14) p105 q105
                              obtain rfl : ad101 = ad105 := (by injection e105)
                              replace p105 := eq_true p105
                              replace q105 := eq_true q105
                              obtain ⟨i024, hi024, _, hsz24, _⟩ := info_parts info5
                              obtain ⟨A24, hcut24, hA24, hC24⟩ := print_mid_of (P := Tryd.prog) (Value.int .u8) 0 22 5 .i64 .i64 Tryd.underlying22 hi024 hsz24 (some ad101) c0 l0 (ji14) (wrap64 ((ji14) + 1)) (of_decide_eq_true (by first | (with_reducible assumption) | assumption)) (by first | omega | exact of_decide_eq_true (by first | (with_reducible assumption) | assumption)) (of_decide_eq_true (by first | (with_reducible assumption) | assumption)) HC0.out
                              have HR106 := Aside0.mk (Kd.C_of_reads (h1 := fun _ => rfl) (hA24 _ (Kd.reads_of_C HR0.out)))
                              have HC106 := Aside0.mk hC24
                              clear hA24 hC24 hi024 hsz24
                              have hcv25 := Kd.C_string (P := Tryd.prog) (A := A24) (c := (c0 - (ji14).toNat)) Tryd.underlying22 Tryd.underlying5 Tryd.underlying9 HR106.out
                              rw [show ((l0.take ((wrap64 ((ji14) + 1)) : Int).toNat).drop ((ji14) : Int).toNat).length = ((wrap64 ((ji14) + 1)).toNat - (ji14).toNat) from (by rw [List.length_drop, List.length_take]; have h_ : ((wrap64 ((ji14) + 1)) : Int) ≤ (l0.length : Int) := of_decide_eq_true (by first | (with_reducible assumption) | assumption); omega)] at hcv25
                              have hcvm25 := fun m_ : Nat => Kd.C_string (P := Tryd.prog) (A := A24) (c := (c0 - (ji14).toNat)) Tryd.underlying22 Tryd.underlying5 Tryd.underlying9 (Kd.C_drewN HR106.out m_)
                              simp only [show ((l0.take ((wrap64 ((ji14) + 1)) : Int).toNat).drop ((ji14) : Int).toNat).length = ((wrap64 ((ji14) + 1)).toNat - (ji14).toNat) from (by rw [List.length_drop, List.length_take]; have h_ : ((wrap64 ((ji14) + 1)) : Int) ≤ (l0.length : Int) := of_decide_eq_true (by first | (with_reducible assumption) | assumption); omega)] at hcvm25
                              go_wp2
                              go_roundg k1
                              case measure => have := HK1.out; omega
                              case rel => exact ⟨(x7_1 ++ (strOfNums ((l0.take ((wrap64 ((ji14) + 1)) : Int).toNat).drop ((ji14) : Int).toNat))), (wrap64 ((ji14) + 1)), (by first | rfl | (simp; done) | (simp only [← hji14] <;> (first | rfl | simp)) | (simp [*]; done)), (by first | rfl | (simp; done) | (simp only [← hji14] <;> (first | rfl | simp)) | (simp [*]; done)), H', ⟨by have := HK1.out; omega⟩, by repeat (first | exact Drawn0.refl _ | apply Drawn0.step)⟩
                            · rw [if_neg c23] at H
                              exact absurd H (by simp)
                          · rw [if_neg c22] at H
                            exact absurd H (by simp)
                        · rw [if_neg c21] at H
                          exact absurd H (by simp)
                      · rw [if_neg c19] at H
                        have c19b0 : ((rd l0 (ji14)) == 34) = false := beq_eq_false_iff_ne.mpr c19
                        have c19b1 : ((rd l0 (ji14)) != 34) = true := bne_iff_ne.mpr c19
                        by_cases c26 : (rd l0 (ji14)) = 92
                        · rw [if_pos c26] at H
                          have c26b0 : ((rd l0 (ji14)) == 92) = true := beq_iff_eq.mpr c26
                          have c26b1 : ((rd l0 (ji14)) != 92) = false := bne_eq_false_iff_eq.mpr c26
                          clear c26
                          have c27b0 := eq_true (of_decide_eq_true (by first | (with_reducible assumption) | assumption) : 0 ≤ (ji14))
                          by_cases c28 : (ji14) ≤ (wrap64 ((ji14) + 1))
                          · rw [if_pos c28] at H
                            have c28b0 := eq_true c28
                            have c28b1 : decide ((ji14) ≤ (wrap64 ((ji14) + 1))) = true := decide_eq_true c28
                            by_cases c29 : (wrap64 ((ji14) + 1)) ≤ (l0.length : Int)
                            · rw [if_pos c29] at H
                              have c29b0 := eq_true c29
                              have c29b1 : decide ((wrap64 ((ji14) + 1)) ≤ (l0.length : Int)) = true := decide_eq_true c29
                              by_cases c30 : x7_1.size + (strOfNums ((l0.take ((wrap64 ((ji14) + 1)) : Int).toNat).drop ((ji14) : Int).toNat)).size ≤ 9223372036854775807
                              · rw [if_pos c30] at H
                                have c30b0 := eq_true c30
                                have c30b1 : decide (x7_1.size + (strOfNums ((l0.take ((wrap64 ((ji14) + 1)) : Int).toNat).drop ((ji14) : Int).toNat)).size ≤ 9223372036854775807) = true := decide_eq_true c30
                                try have c30b2 : (9223372036854775807 < x7_1.size + (strOfNums ((l0.take ((wrap64 ((ji14) + 1)) : Int).toNat).drop ((ji14) : Int).toNat)).size) = False := eq_false (Nat.not_lt.2 c30)
                                have H' := Aside0.mk H
                                clear H
                                have p101 : 0 ≤ (x8_1 : Int) := of_decide_eq_true (by first | (with_reducible assumption) | assumption)
                                have q101 : x8_1 < (l0.length : Int) := of_decide_eq_true (by first | (with_reducible assumption) | assumption)
                                obtain ⟨ad101, e101, hx101_0⟩ := Kd.at_int HR0.out x8_1 p101 q101
                                cases e101
                                replace p101 := eq_true p101
                                replace q101 := eq_true q101
                                have p105 : 0 ≤ ((ji14) : Int) := of_decide_eq_true (by first | (with_reducible assumption) | assumption)
                                have q105 : (ji14) < (l0.length : Int) := of_decide_eq_true (by first | (with_reducible assumption) | assumption)
                                obtain ⟨ad105, e105, hx105_0⟩ := Kd.at_int HR0.out (ji14) p105 q105
                                obtain rfl : ad101 = ad105 := (by injection e105)
                                replace p105 := eq_true p105
                                replace q105 := eq_true q105
                                obtain ⟨i031, hi031, _, hsz31, _⟩ := info_parts info5
                                obtain ⟨A31, hcut31, hA31, hC31⟩ := print_mid_of (P := Tryd.prog) (Value.int .u8) 0 22 5 .i64 .i64 Tryd.underlying22 hi031 hsz31 (some ad101) c0 l0 (ji14) (wrap64 ((ji14) + 1)) (of_decide_eq_true (by first | (with_reducible assumption) | assumption)) (by first | omega | exact of_decide_eq_true (by first | (with_reducible assumption) | assumption)) (of_decide_eq_true (by first | (with_reducible assumption) | assumption)) HC0.out
                                have HR107 := Aside0.mk (Kd.C_of_reads (h1 := fun _ => rfl) (hA31 _ (Kd.reads_of_C HR0.out)))
                                have HC107 := Aside0.mk hC31
                                clear hA31 hC31 hi031 hsz31
                                have hcv32 := Kd.C_string (P := Tryd.prog) (A := A31) (c := (c0 - (ji14).toNat)) Tryd.underlying22 Tryd.underlying5 Tryd.underlying9 HR107.out
                                rw [show ((l0.take ((wrap64 ((ji14) + 1)) : Int).toNat).drop ((ji14) : Int).toNat).length = ((wrap64 ((ji14) + 1)).toNat - (ji14).toNat) from (by rw [List.length_drop, List.length_take]; have h_ : ((wrap64 ((ji14) + 1)) : Int) ≤ (l0.length : Int) := of_decide_eq_true (by first | (with_reducible assumption) | assumption); omega)] at hcv32
                                have hcvm32 := fun m_ : Nat => Kd.C_string (P := Tryd.prog) (A := A31) (c := (c0 - (ji14).toNat)) Tryd.underlying22 Tryd.underlying5 Tryd.underlying9 (Kd.C_drewN HR107.out m_)
                                simp only [show ((l0.take ((wrap64 ((ji14) + 1)) : Int).toNat).drop ((ji14) : Int).toNat).length = ((wrap64 ((ji14) + 1)).toNat - (ji14).toNat) from (by rw [List.length_drop, List.length_take]; have h_ : ((wrap64 ((ji14) + 1)) : Int) ≤ (l0.length : Int) := of_decide_eq_true (by first | (with_reducible assumption) | assumption); omega)] at hcvm32
                                go_wp2
                                go_roundg k1
                                case measure => have := HK1.out; omega
                                case rel => exact ⟨(x7_1 ++ (strOfNums ((l0.take ((wrap64 ((ji14) + 1)) : Int).toNat).drop ((ji14) : Int).toNat))), (wrap64 ((ji14) + 1)), (by first | rfl | (simp; done) | (simp only [← hji14] <;> (first | rfl | simp)) | (simp [*]; done)), (by first | rfl | (simp; done) | (simp only [← hji14] <;> (first | rfl | simp)) | (simp [*]; done)), H', ⟨by have := HK1.out; omega⟩, by repeat (first | exact Drawn0.refl _ | apply Drawn0.step)⟩
                              · rw [if_neg c30] at H
                                exact absurd H (by simp)
                            · rw [if_neg c29] at H
                              exact absurd H (by simp)
                          · rw [if_neg c28] at H
                            exact absurd H (by simp)
                        · rw [if_neg c26] at H
                          have c26b0 : ((rd l0 (ji14)) == 92) = false := beq_eq_false_iff_ne.mpr c26
                          have c26b1 : ((rd l0 (ji14)) != 92) = true := bne_iff_ne.mpr c26
                          simp only [Option.some.injEq, Prod.mk.injEq] at H
                          obtain ⟨rfl, rfl, rfl⟩ := H
                          have p101 : 0 ≤ (x8_1 : Int) := of_decide_eq_true (by first | (with_reducible assumption) | assumption)
                          have q101 : x8_1 < (l0.length : Int) := of_decide_eq_true (by first | (with_reducible assumption) | assumption)
                          obtain ⟨ad101, e101, hx101_0⟩ := Kd.at_int HR0.out x8_1 p101 q101
                          cases e101
                          replace p101 := eq_true p101
                          replace q101 := eq_true q101
                          have p105 : 0 ≤ ((ji14) : Int) := of_decide_eq_true (by first | (with_reducible assumption) | assumption)
                          have q105 : (ji14) < (l0.length : Int) := of_decide_eq_true (by first | (with_reducible assumption) | assumption)
                          obtain ⟨ad105, e105, hx105_0⟩ := Kd.at_int HR0.out (ji14) p105 q105
                          obtain rfl : ad101 = ad105 := (by injection e105)
                          replace p105 := eq_true p105
                          replace q105 := eq_true q105
                          go_wp2
                          go_ret3
                          exact ⟨by first | rfl | (simp; done) | (simp only [← hji14] <;> (first | rfl | simp)) | (simp [*]; done), by repeat (first | exact Drawn0.refl _ | apply Drawn0.step)⟩
                  · rw [if_neg c16] at H
                    exact absurd H (by simp)
                · rw [if_neg c15] at H
                  exact absurd H (by simp)
            · rw [if_neg c12] at H
              have c12b0 : ((rd l0 x8_1) == 92) = false := beq_eq_false_iff_ne.mpr c12
              have c12b1 : ((rd l0 x8_1) != 92) = true := bne_iff_ne.mpr c12
              replace H := Option.bind_eq_some_iff.mp H
              obtain ⟨t108, A330, H⟩ := H
              replace H : (if t108 = true then (some ((⟨#[]⟩ : ByteArray), 0, false)) else (if x8_1 ≤ (wrap64 (x8_1 + 1)) then (if (wrap64 (x8_1 + 1)) ≤ (l0.length : Int) then (if x7_1.size + (strOfNums ((l0.take ((wrap64 (x8_1 + 1)) : Int).toNat).drop (x8_1 : Int).toNat)).size ≤ 9223372036854775807 then (murmurationref13_quoted.l0 k1 l0 (x7_1 ++ (strOfNums ((l0.take ((wrap64 (x8_1 + 1)) : Int).toNat).drop (x8_1 : Int).toNat))) (wrap64 (x8_1 + 1))) else (none)) else (none)) else (none))) = some (r1, r2, r3) := H
              have A33 := Aside0.mk A330
              clear A330
              by_cases c34 : t108 = true
              · subst c34
                have H1 : (some ((⟨#[]⟩ : ByteArray), 0, false)) = some (r1, r2, r3) := by rw [if_pos rfl] at H; exact H
                clear H
                have H := H1
                clear H1
                simp only [Option.some.injEq, Prod.mk.injEq] at H
                obtain ⟨rfl, rfl, rfl⟩ := H
                have p101 : 0 ≤ (x8_1 : Int) := of_decide_eq_true (by first | (with_reducible assumption) | assumption)
                have q101 : x8_1 < (l0.length : Int) := of_decide_eq_true (by first | (with_reducible assumption) | assumption)
                obtain ⟨ad101, e101, hx101_0⟩ := Kd.at_int HR0.out x8_1 p101 q101
                cases e101
                replace p101 := eq_true p101
                replace q101 := eq_true q101
                go_wp2_with (first | ((with_reducible refine gate_callee (f := 22) rfl ?_); refine goesL_ (some 94) rfl rfl Tryd.func22 (by kernel_rfl) rfl #[.int .u8 (rd l0 x8_1)] rfl (by (try simp only [List.map_toArray, List.map_cons, List.map_nil]); first | done | rfl | (simp only [List.length_drop, List.length_take]; rfl)) ?_; (with_reducible refine (murmurationref13_ctrl.calls (rd l0 x8_1) true _ A33.out).mono ?_); rintro e w' ⟨rfl, ⟨nd, rfl⟩⟩; refine ⟨_, rfl, ?_⟩))
                go_ret3
                exact ⟨by first | rfl | (simp; done) | (simp [*]; done), by repeat (first | exact Drawn0.refl _ | apply Drawn0.step)⟩
              · replace c34 := Bool.eq_false_iff.mpr c34
                subst c34
                have H1 : (if x8_1 ≤ (wrap64 (x8_1 + 1)) then (if (wrap64 (x8_1 + 1)) ≤ (l0.length : Int) then (if x7_1.size + (strOfNums ((l0.take ((wrap64 (x8_1 + 1)) : Int).toNat).drop (x8_1 : Int).toNat)).size ≤ 9223372036854775807 then (murmurationref13_quoted.l0 k1 l0 (x7_1 ++ (strOfNums ((l0.take ((wrap64 (x8_1 + 1)) : Int).toNat).drop (x8_1 : Int).toNat))) (wrap64 (x8_1 + 1))) else (none)) else (none)) else (none)) = some (r1, r2, r3) := by rw [if_neg (show ¬ (false = true) by decide)] at H; exact H
                clear H
                have H := H1
                clear H1
                have c35b0 := eq_true (of_decide_eq_true (by first | (with_reducible assumption) | assumption) : 0 ≤ x8_1)
                by_cases c36 : x8_1 ≤ (wrap64 (x8_1 + 1))
                · rw [if_pos c36] at H
                  have c36b0 := eq_true c36
                  have c36b1 : decide (x8_1 ≤ (wrap64 (x8_1 + 1))) = true := decide_eq_true c36
                  by_cases c37 : (wrap64 (x8_1 + 1)) ≤ (l0.length : Int)
                  · rw [if_pos c37] at H
                    have c37b0 := eq_true c37
                    have c37b1 : decide ((wrap64 (x8_1 + 1)) ≤ (l0.length : Int)) = true := decide_eq_true c37
                    by_cases c38 : x7_1.size + (strOfNums ((l0.take ((wrap64 (x8_1 + 1)) : Int).toNat).drop (x8_1 : Int).toNat)).size ≤ 9223372036854775807
                    · rw [if_pos c38] at H
                      have c38b0 := eq_true c38
                      have c38b1 : decide (x7_1.size + (strOfNums ((l0.take ((wrap64 (x8_1 + 1)) : Int).toNat).drop (x8_1 : Int).toNat)).size ≤ 9223372036854775807) = true := decide_eq_true c38
                      try have c38b2 : (9223372036854775807 < x7_1.size + (strOfNums ((l0.take ((wrap64 (x8_1 + 1)) : Int).toNat).drop (x8_1 : Int).toNat)).size) = False := eq_false (Nat.not_lt.2 c38)
                      have H' := Aside0.mk H
                      clear H
                      have p101 : 0 ≤ (x8_1 : Int) := of_decide_eq_true (by first | (with_reducible assumption) | assumption)
                      have q101 : x8_1 < (l0.length : Int) := of_decide_eq_true (by first | (with_reducible assumption) | assumption)
                      obtain ⟨ad101, e101, hx101_0⟩ := Kd.at_int HR0.out x8_1 p101 q101
                      cases e101
                      replace p101 := eq_true p101
                      replace q101 := eq_true q101
                      go_wp2_with (first | ((with_reducible refine gate_callee (f := 22) rfl ?_); refine goesL_ (some 94) rfl rfl Tryd.func22 (by kernel_rfl) rfl #[.int .u8 (rd l0 x8_1)] rfl (by (try simp only [List.map_toArray, List.map_cons, List.map_nil]); first | done | rfl | (simp only [List.length_drop, List.length_take]; rfl)) ?_; (with_reducible refine (murmurationref13_ctrl.calls (rd l0 x8_1) false _ A33.out).mono ?_); rintro e w' ⟨rfl, ⟨nd, rfl⟩⟩; refine ⟨_, rfl, ?_⟩; obtain ⟨i039, hi039, _, hsz39, _⟩ := info_parts info5; obtain ⟨A39, hcut39, hA39, hC39⟩ := print_mid_of (P := Tryd.prog) (Value.int .u8) 0 22 5 .i64 .i64 Tryd.underlying22 hi039 hsz39 (some ad101) c0 l0 x8_1 (wrap64 (x8_1 + 1)) (of_decide_eq_true (by first | (with_reducible assumption) | assumption)) (by first | omega | exact of_decide_eq_true (by first | (with_reducible assumption) | assumption)) (of_decide_eq_true (by first | (with_reducible assumption) | assumption)) HC0.out; have HR109 := Aside0.mk (Kd.C_of_reads (h1 := fun _ => rfl) (hA39 _ (Kd.reads_of_C HR0.out))); have HC109 := Aside0.mk hC39; clear hA39 hC39 hi039 hsz39; have hcv40 := Kd.C_string (P := Tryd.prog) (A := A39) (c := (c0 - x8_1.toNat)) Tryd.underlying22 Tryd.underlying5 Tryd.underlying9 HR109.out; rw [show ((l0.take ((wrap64 (x8_1 + 1)) : Int).toNat).drop (x8_1 : Int).toNat).length = ((wrap64 (x8_1 + 1)).toNat - x8_1.toNat) from (by rw [List.length_drop, List.length_take]; have h_ : ((wrap64 (x8_1 + 1)) : Int) ≤ (l0.length : Int) := of_decide_eq_true (by first | (with_reducible assumption) | assumption); omega)] at hcv40; have hcvm40 := fun m_ : Nat => Kd.C_string (P := Tryd.prog) (A := A39) (c := (c0 - x8_1.toNat)) Tryd.underlying22 Tryd.underlying5 Tryd.underlying9 (Kd.C_drewN HR109.out m_); simp only [show ((l0.take ((wrap64 (x8_1 + 1)) : Int).toNat).drop (x8_1 : Int).toNat).length = ((wrap64 (x8_1 + 1)).toNat - x8_1.toNat) from (by rw [List.length_drop, List.length_take]; have h_ : ((wrap64 (x8_1 + 1)) : Int) ≤ (l0.length : Int) := of_decide_eq_true (by first | (with_reducible assumption) | assumption); omega)] at hcvm40))
                      go_roundg k1
                      case measure => have := HK1.out; omega
                      case rel => exact ⟨(x7_1 ++ (strOfNums ((l0.take ((wrap64 (x8_1 + 1)) : Int).toNat).drop (x8_1 : Int).toNat))), (wrap64 (x8_1 + 1)), (by first | rfl | (simp; done) | (simp [*]; done)), (by first | rfl | (simp; done) | (simp [*]; done)), H', ⟨by have := HK1.out; omega⟩, by repeat (first | exact Drawn0.refl _ | apply Drawn0.step)⟩
                    · rw [if_neg c38] at H
                      exact absurd H (by simp)
                  · rw [if_neg c37] at H
                    exact absurd H (by simp)
                · rw [if_neg c36] at H
                  exact absurd H (by simp)
        · rw [if_neg c4] at H
          exact absurd H (by simp)
      · rw [if_neg c3] at H
        have c3b0 : decide (x8_1 < (l0.length : Int)) = false := decide_eq_false c3
        clear c3
        simp only [Option.some.injEq, Prod.mk.injEq] at H
        obtain ⟨rfl, rfl, rfl⟩ := H
        go_wp2
        go_ret3
        exact ⟨by first | rfl | (simp; done) | (simp [*]; done), by repeat (first | exact Drawn0.refl _ | apply Drawn0.step)⟩

end Go.Proofs.YtpnghpmgdekmgaaDoor.Q

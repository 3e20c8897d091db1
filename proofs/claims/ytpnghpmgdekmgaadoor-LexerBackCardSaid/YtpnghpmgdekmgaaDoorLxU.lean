import Derived.Test.YtpnghpmgdekmgaaDoorLxT
import Derived.Test.YtpnghpmgdekmgaaDoorLxG
import Derived.Lib.Hide
import Derived.Deep.LoopGhost
import Derived.Deep.QuietTactic
import Derived.BigQuiet
import Derived.Deep.CutBlock
import Derived.Deep.DeepCutAuto
namespace Go.Proofs.YtpnghpmgdekmgaaDoor.Q
open Go.RowKit Go.Proofs.YtpnghpmgdekmgaaDoorW.PrintWords Go.Proofs.YtpnghpmgdekmgaaDoorW.PrintLast Go.Proofs.YtpnghpmgdekmgaaDoorW.PrintMore
set_option linter.unusedVariables false
set_option linter.unusedSimpArgs false

/-- What a lead byte has said: how many bytes, and its own bits. -/
def Lead (b0 : Nat) (n : Nat) (r0 : Int) : Prop :=
  (n = 1 ∧ b0 < 128 ∧ r0 = b0) ∨ (n = 2 ∧ 192 ≤ b0 ∧ b0 < 224 ∧ r0 = b0 - 192) ∨ (n = 3 ∧ 224 ≤ b0 ∧ b0 < 240 ∧ r0 = b0 - 224) ∨ (n = 4 ∧ 240 ≤ b0 ∧ b0 < 256 ∧ r0 = b0 - 240)
theorem Lead.len {b0 n : Nat} {r0 : Int} (h : Lead b0 n r0) : 1 ≤ n ∧ n ≤ 4 ∧ 0 ≤ r0 ∧ r0 < 128 ∧ (n = 1 ∨ (192 ≤ b0 ∧ leadLen b0 = n)) := by
  unfold Lead at h
  unfold leadLen
  rcases h with ⟨h1, h2, h3⟩ | ⟨h1, h2, h3, h4⟩ | ⟨h1, h2, h3, h4⟩ | ⟨h1, h2, h3, h4⟩
  · exact ⟨by omega, by omega, by omega, by omega, .inl h1⟩
  · refine ⟨by omega, by omega, by omega, by omega, .inr ⟨by omega, ?_⟩⟩
    rw [if_neg (by omega), if_neg (by omega), if_pos (by omega)]; exact h1.symm
  · refine ⟨by omega, by omega, by omega, by omega, .inr ⟨by omega, ?_⟩⟩
    rw [if_neg (by omega), if_pos (by omega)]; exact h1.symm
  · refine ⟨by omega, by omega, by omega, by omega, .inr ⟨by omega, ?_⟩⟩
    rw [if_pos (by omega)]; exact h1.symm
/-- The rune's number, k bytes read. -/
def runeAt (b1 b2 b3 : Nat) (r0 : Int) : Nat → Int
  | 1 => r0
  | 2 => r0 * 64 + b1 - 128
  | 3 => (r0 * 64 + b1 - 128) * 64 + b2 - 128
  | 4 => ((r0 * 64 + b1 - 128) * 64 + b2 - 128) * 64 + b3 - 128
  | _ => 0
/-- The bytes behind the lead, up to k, are what they must be. -/
def Conts (b1 b2 b3 k : Nat) : Prop := (k < 2 ∨ (128 ≤ b1 ∧ b1 ≤ 191)) ∧ (k < 3 ∨ (128 ≤ b2 ∧ b2 ≤ 191)) ∧ (k < 4 ∨ (128 ≤ b3 ∧ b3 ≤ 191))

theorem add_lit (ad : Addr) (n : Nat) (h : n ≠ 0) : ad.add n = ⟨ad.block, ad.off + n, none⟩ := by
  unfold Addr.add
  rw [if_neg h]
set_option maxHeartbeats 8000000 in
set_option maxRecDepth 100000 in
theorem utf_calls (A0 : Option Addr) (c0 : Nat) (l0 : List Int) (w : World) (hr0 : ReadsInt w .u8 A0 l0.length l0) (hb : ∀ x ∈ l0, 0 ≤ x ∧ x < 256) (hm : l0.length ≤ 1000000) :
    Calls Tryd.prog 20 #[.slice A0 l0.length c0] w fun e w' => e = .returned (.bool (Lib.validD (Lib.bytesOf l0))) ∧ Below w.heap.size w w' := by
  obtain ⟨ANS, hANS⟩ : ∃ ANS, Lib.validD (Lib.bytesOf l0) = ANS := ⟨_, rfl⟩
  rw [hANS]
  have HA0 := Lib.hid hANS
  obtain ⟨N, hN⟩ : ∃ N, l0.length = N := ⟨_, rfl⟩
  rw [hN] at hr0 hm ⊢
  have HR := Lib.hid hr0
  have HBY := Lib.hid hb
  have HN := Lib.hid hN
  clear hANS hr0 hb hN
  go_enter Tryd.func20, Tryd.ntmps20
  go_wp2
  go_loopg [3] (N + 1) (fun gk s3 wx => ∃ (i : Nat), s3 = .int .i64 i ∧ Aside0 (i ≤ N) ∧ Aside0 (Lib.validD (Lib.bytesOf (l0.drop i)) = ANS) ∧ Aside0 (N < gk + i) ∧ Aside0 (Below w.heap.size w wx))
  case atStart => exact ⟨0, rfl, ⟨by omega⟩, ⟨by rw [List.drop_zero]; exact HA0.out⟩, ⟨by omega⟩, ⟨Below.refl _ _⟩⟩
  case round =>
    clear HA0
    obtain ⟨i, rfl, HI, HV, HF, HB⟩ := hrel
    have hiN := HI.out
    by_cases hi : i < N
    · have hiz : (i : Int) < (N : Int) := by omega
      obtain ⟨k1, rfl⟩ : ∃ k1, gk = k1 + 1 := ⟨gk - 1, by have := HF.out; omega⟩
      obtain ⟨ad, rfl, hcw⟩ := HR.out.2.2 (by omega)
      have hcj : ∀ j, i + j < N → w.cell? (ad.add (i + j)) = some (.int .u8 (by4 l0 i j : Int)) := fun j hj => by
        rw [hcw _ hj, ← (by4_eq l0 HBY.out i j).2.1]
      have HCJ := Lib.hid hcj
      have hb0 : by4 l0 i 0 < 256 := (by4_eq l0 HBY.out i 0).2.2
      have hc0 : wr.cell? (ad.add i) = some (.int .u8 (by4 l0 i 0 : Int)) := pw_cell_below HB.out (hcj 0 (by omega))
      obtain ⟨b0, hb0e⟩ : ∃ b0, by4 l0 i 0 = b0 := ⟨_, rfl⟩
      rw [hb0e] at hb0 hc0
      have hiN' : i < l0.length := by rw [HN.out]; exact hi
      have hbad := stepBad l0 HBY.out i hiN'
      have hone := step1 l0 HBY.out i hiN'
      have hgood := stepN l0 HBY.out i hiN'
      rw [hb0e, HV.out, HN.out] at hbad hgood
      rw [hb0e, HV.out] at hone
      have HBAD := Lib.hid hbad
      have HONE := Lib.hid hone
      have HGOOD := Lib.hid hgood
      clear hcj hcw hbad hone hgood hiN'
      have HCU := Lib.hid True.intro
      by_cases q128 : b0 < 128
      · have z1 : ¬ ((128 : Int) ≤ (b0 : Int)) := by omega
        have z2 : ¬ ((192 : Int) ≤ (b0 : Int)) := by omega
        have z3 : ¬ ((224 : Int) ≤ (b0 : Int)) := by omega
        have z4 : ¬ ((240 : Int) ≤ (b0 : Int)) := by omega
        have hr0 : (0 : Int) ≤ (b0 : Int) ∧ (b0 : Int) < 128 := by omega
        obtain ⟨R0, hR0⟩ : ∃ R0 : Int, (b0 : Int) = R0 := ⟨_, rfl⟩
        have hR0b : 0 ≤ R0 ∧ R0 < 128 := by omega
        have hlz : ¬ ((N : Int) < (i : Int) + 1) := by omega
        obtain ⟨b1, hb1⟩ : ∃ b1, by4 l0 i 1 = b1 := ⟨_, rfl⟩
        obtain ⟨b2, hb2⟩ : ∃ b2, by4 l0 i 2 = b2 := ⟨_, rfl⟩
        obtain ⟨b3, hb3⟩ : ∃ b3, by4 l0 i 3 = b3 := ⟨_, rfl⟩
        rw [hb1, hb2, hb3] at HBAD HGOOD
        clear hb1 hb2 hb3
        go_wp2
        go_loopg [5, 6] 1 (fun g s5 s6 wx => ∃ (k : Nat) (r : Int), s6 = .int .i64 k ∧ s5 = .int .i64 r ∧ 1 ≤ k ∧ k ≤ 1 ∧ g + k = 2 ∧ Aside0 (Conts b1 b2 b3 k) ∧ Aside0 (r = runeAt b1 b2 b3 R0 k) ∧ 0 ≤ r ∧ r < 8388608 ∧ wx = wr)
        case atStart => exact ⟨1, R0, rfl, rfl, by omega, by omega, by omega, ⟨.inl (by omega), .inl (by omega), .inl (by omega)⟩, ⟨rfl⟩, by omega, by omega, rfl⟩
        case round =>
          obtain ⟨k, r, rfl, rfl, hk1, hkn, hgk, HCO, HRU, hr1, hr2, rfl⟩ := hrel
          have hco := HCO.out
          unfold Conts at hco
          have hkk : k = 1 := by omega
          subst hkk
          have hru := HRU.out
          simp only [runeAt] at hru
          have r128 : r < 128 := by omega
          have HG2 := Lib.hid (HONE.out q128)
          clear hru
          clear hR0 hco hR0b
          go_wp2
          go_roundg k1
          case measure => omega
          case rel => exact ⟨i + 1, by simp, ⟨by omega⟩, ⟨HG2.out.symm⟩, ⟨by have := HF.out; omega⟩, ⟨HB.out.alloc HB.out.size _⟩⟩
      · by_cases q192 : b0 < 192
        · have z1 : ((128 : Int) ≤ (b0 : Int)) := by omega
          have z2 : ¬ ((192 : Int) ≤ (b0 : Int)) := by omega
          have z3 : ¬ ((224 : Int) ≤ (b0 : Int)) := by omega
          have z4 : ¬ ((240 : Int) ≤ (b0 : Int)) := by omega
          have hans : ANS = false := HBAD.out (by omega) (fun h => by have := h.1; omega)
          subst hans
          go_wp2
          go_ret
          exact ⟨rfl, HB.out⟩
        · by_cases q224 : b0 < 224
          · have z2 : ((192 : Int) ≤ (b0 : Int)) := by omega
            have z3 : ¬ ((224 : Int) ≤ (b0 : Int)) := by omega
            have z4 : ¬ ((240 : Int) ≤ (b0 : Int)) := by omega
            have hlead : leadLen b0 = 2 := by unfold leadLen; (repeat' split) <;> omega
            obtain ⟨R0, hR0⟩ : ∃ R0 : Int, ((b0 : Int) - 192) = R0 := ⟨_, rfl⟩
            have hR0b : 0 ≤ R0 ∧ R0 < 32 := by omega
            by_cases hl : i + 2 ≤ N
            · have hlz : ¬ ((N : Int) < (i : Int) + 2) := by omega
              obtain ⟨b1, hb1⟩ : ∃ b1, by4 l0 i 1 = b1 := ⟨_, rfl⟩
              obtain ⟨b2, hb2⟩ : ∃ b2, by4 l0 i 2 = b2 := ⟨_, rfl⟩
              obtain ⟨b3, hb3⟩ : ∃ b3, by4 l0 i 3 = b3 := ⟨_, rfl⟩
              rw [hb1, hb2, hb3] at HBAD HGOOD
              have hc1 : wr.cell? (ad.add (i + 1)) = some (.int .u8 (b1 : Int)) := hb1 ▸ pw_cell_below HB.out (HCJ.out 1 (by omega))
              have hx1 : b1 < 256 := hb1 ▸ (by4_eq l0 HBY.out i 1).2.2
              clear hb1 hb2 hb3
              go_wp2
              go_loopg [5, 6] 2 (fun g s5 s6 wx => ∃ (k : Nat) (r : Int), s6 = .int .i64 k ∧ s5 = .int .i64 r ∧ 1 ≤ k ∧ k ≤ 2 ∧ g + k = 3 ∧ Aside0 (Conts b1 b2 b3 k) ∧ Aside0 (r = runeAt b1 b2 b3 R0 k) ∧ 0 ≤ r ∧ r < 8388608 ∧ wx = wr)
              case atStart => exact ⟨1, R0, rfl, rfl, by omega, by omega, by omega, ⟨.inl (by omega), .inl (by omega), .inl (by omega)⟩, ⟨rfl⟩, by omega, by omega, rfl⟩
              case round =>
                obtain ⟨k, r, rfl, rfl, hk1, hkn, hgk, HCO, HRU, hr1, hr2, rfl⟩ := hrel
                have hco := HCO.out
                unfold Conts at hco
                by_cases hk1 : k = 1
                · subst hk1
                  have hru := HRU.out
                  simp only [runeAt] at hru
                  have hcz : wr.cell? ⟨ad.block, ad.off + (i + 1), none⟩ = some (.int .u8 (b1 : Int)) := by rw [← add_lit ad (i + 1) (by omega)]; exact hc1
                  by_cases q1 : b1 < 128
                  · have q1z : (b1 : Int) < 128 := by omega
                    have hans : ANS = false := HBAD.out (by omega) (fun h => by have h2 := h.2; rw [hlead] at h2; unfold utfOk at h2; omega)
                    subst hans
                    go_wp2
                    go_ret
                    exact ⟨rfl, HB.out⟩
                  · have q1z : ¬ ((b1 : Int) < 128) := by omega
                    by_cases q2 : 191 < b1
                    · have q2z : (191 : Int) < (b1 : Int) := by omega
                      have hans : ANS = false := HBAD.out (by omega) (fun h => by have h2 := h.2; rw [hlead] at h2; unfold utfOk at h2; omega)
                      subst hans
                      go_wp2
                      go_ret
                      exact ⟨rfl, HB.out⟩
                    · have q2z : ¬ ((191 : Int) < (b1 : Int)) := by omega
                      go_wp2
                      go_roundg (gk - 1)
                      case measure => omega
                      case rel => exact ⟨2, _, rfl, rfl, by omega, by omega, by omega, ⟨by unfold Conts; omega⟩, ⟨by first | rfl | (simp only [runeAt]; omega)⟩, by omega, by omega, rfl⟩
                · have hkk : k = 2 := by omega
                  subst hkk
                  by_cases p0 : r < 128
                  · have p_ := p0
                    have hans : ANS = false := HBAD.out (by omega) (fun h => by have h2 := h.2; rw [hlead] at h2; unfold utfOk at h2; have hru := HRU.out; simp only [runeAt] at hru; omega)
                    subst hans
                    clear hR0 hco hR0b
                    go_wp2
                    go_ret
                    exact ⟨rfl, HB.out.alloc HB.out.size _⟩
                  · skip
                    have HG2 := Lib.hid (HGOOD.out (by omega) (by rw [hlead]; unfold utfOk; have hru := HRU.out; simp only [runeAt] at hru; omega))
                    rw [hlead] at HG2
                    have hru := HRU.out
                    simp only [runeAt] at hru
                    have r2 : r < 2048 := by omega
                    clear hru
                    clear hR0 hco hR0b
                    go_wp2
                    go_roundg k1
                    case measure => omega
                    case rel => exact ⟨i + 2, by simp, ⟨by omega⟩, ⟨HG2.out.symm⟩, ⟨by have := HF.out; omega⟩, ⟨HB.out.alloc HB.out.size _⟩⟩
            · have hlz : (N : Int) < (i : Int) + 2 := by omega
              have hans : ANS = false := HBAD.out (by omega) (fun h => by have h2 := h.2; rw [hlead] at h2; unfold utfOk at h2; omega)
              subst hans
              go_wp2
              go_ret
              exact ⟨rfl, HB.out⟩
          · by_cases q240 : b0 < 240
            · have z3 : ((224 : Int) ≤ (b0 : Int)) := by omega
              have z4 : ¬ ((240 : Int) ≤ (b0 : Int)) := by omega
              have hlead : leadLen b0 = 3 := by unfold leadLen; (repeat' split) <;> omega
              obtain ⟨R0, hR0⟩ : ∃ R0 : Int, ((b0 : Int) - 224) = R0 := ⟨_, rfl⟩
              have hR0b : 0 ≤ R0 ∧ R0 < 16 := by omega
              by_cases hl : i + 3 ≤ N
              · have hlz : ¬ ((N : Int) < (i : Int) + 3) := by omega
                obtain ⟨b1, hb1⟩ : ∃ b1, by4 l0 i 1 = b1 := ⟨_, rfl⟩
                obtain ⟨b2, hb2⟩ : ∃ b2, by4 l0 i 2 = b2 := ⟨_, rfl⟩
                obtain ⟨b3, hb3⟩ : ∃ b3, by4 l0 i 3 = b3 := ⟨_, rfl⟩
                rw [hb1, hb2, hb3] at HBAD HGOOD
                have hc1 : wr.cell? (ad.add (i + 1)) = some (.int .u8 (b1 : Int)) := hb1 ▸ pw_cell_below HB.out (HCJ.out 1 (by omega))
                have hx1 : b1 < 256 := hb1 ▸ (by4_eq l0 HBY.out i 1).2.2
                have hc2 : wr.cell? (ad.add (i + 2)) = some (.int .u8 (b2 : Int)) := hb2 ▸ pw_cell_below HB.out (HCJ.out 2 (by omega))
                have hx2 : b2 < 256 := hb2 ▸ (by4_eq l0 HBY.out i 2).2.2
                clear hb1 hb2 hb3
                go_wp2
                go_loopg [5, 6] 3 (fun g s5 s6 wx => ∃ (k : Nat) (r : Int), s6 = .int .i64 k ∧ s5 = .int .i64 r ∧ 1 ≤ k ∧ k ≤ 3 ∧ g + k = 4 ∧ Aside0 (Conts b1 b2 b3 k) ∧ Aside0 (r = runeAt b1 b2 b3 R0 k) ∧ 0 ≤ r ∧ r < 8388608 ∧ wx = wr)
                case atStart => exact ⟨1, R0, rfl, rfl, by omega, by omega, by omega, ⟨.inl (by omega), .inl (by omega), .inl (by omega)⟩, ⟨rfl⟩, by omega, by omega, rfl⟩
                case round =>
                  obtain ⟨k, r, rfl, rfl, hk1, hkn, hgk, HCO, HRU, hr1, hr2, rfl⟩ := hrel
                  have hco := HCO.out
                  unfold Conts at hco
                  by_cases hk1 : k = 1
                  · subst hk1
                    have hru := HRU.out
                    simp only [runeAt] at hru
                    have hcz : wr.cell? ⟨ad.block, ad.off + (i + 1), none⟩ = some (.int .u8 (b1 : Int)) := by rw [← add_lit ad (i + 1) (by omega)]; exact hc1
                    by_cases q1 : b1 < 128
                    · have q1z : (b1 : Int) < 128 := by omega
                      have hans : ANS = false := HBAD.out (by omega) (fun h => by have h2 := h.2; rw [hlead] at h2; unfold utfOk at h2; omega)
                      subst hans
                      go_wp2
                      go_ret
                      exact ⟨rfl, HB.out⟩
                    · have q1z : ¬ ((b1 : Int) < 128) := by omega
                      by_cases q2 : 191 < b1
                      · have q2z : (191 : Int) < (b1 : Int) := by omega
                        have hans : ANS = false := HBAD.out (by omega) (fun h => by have h2 := h.2; rw [hlead] at h2; unfold utfOk at h2; omega)
                        subst hans
                        go_wp2
                        go_ret
                        exact ⟨rfl, HB.out⟩
                      · have q2z : ¬ ((191 : Int) < (b1 : Int)) := by omega
                        go_wp2
                        go_roundg (gk - 1)
                        case measure => omega
                        case rel => exact ⟨2, _, rfl, rfl, by omega, by omega, by omega, ⟨by unfold Conts; omega⟩, ⟨by first | rfl | (simp only [runeAt]; omega)⟩, by omega, by omega, rfl⟩
                  · 
                    by_cases hk2 : k = 2
                    · subst hk2
                      have hru := HRU.out
                      simp only [runeAt] at hru
                      have hcz : wr.cell? ⟨ad.block, ad.off + (i + 2), none⟩ = some (.int .u8 (b2 : Int)) := by rw [← add_lit ad (i + 2) (by omega)]; exact hc2
                      by_cases q1 : b2 < 128
                      · have q1z : (b2 : Int) < 128 := by omega
                        have hans : ANS = false := HBAD.out (by omega) (fun h => by have h2 := h.2; rw [hlead] at h2; unfold utfOk at h2; omega)
                        subst hans
                        go_wp2
                        go_ret
                        exact ⟨rfl, HB.out⟩
                      · have q1z : ¬ ((b2 : Int) < 128) := by omega
                        by_cases q2 : 191 < b2
                        · have q2z : (191 : Int) < (b2 : Int) := by omega
                          have hans : ANS = false := HBAD.out (by omega) (fun h => by have h2 := h.2; rw [hlead] at h2; unfold utfOk at h2; omega)
                          subst hans
                          go_wp2
                          go_ret
                          exact ⟨rfl, HB.out⟩
                        · have q2z : ¬ ((191 : Int) < (b2 : Int)) := by omega
                          go_wp2
                          go_roundg (gk - 1)
                          case measure => omega
                          case rel => exact ⟨3, _, rfl, rfl, by omega, by omega, by omega, ⟨by unfold Conts; omega⟩, ⟨by first | rfl | (simp only [runeAt]; omega)⟩, by omega, by omega, rfl⟩
                    · have hkk : k = 3 := by omega
                      subst hkk
                      by_cases p0 : r < 2048
                      · have p_ := p0
                        have hans : ANS = false := HBAD.out (by omega) (fun h => by have h2 := h.2; rw [hlead] at h2; unfold utfOk at h2; have hru := HRU.out; simp only [runeAt] at hru; omega)
                        subst hans
                        clear hR0 hco hR0b
                        go_wp2
                        go_ret
                        exact ⟨rfl, HB.out.alloc HB.out.size _⟩
                      · skip
                        by_cases p1 : 55296 ≤ r ∧ r ≤ 57343
                        · have p_ := p1
                          obtain ⟨pa, pb⟩ := p_
                          have hans : ANS = false := HBAD.out (by omega) (fun h => by have h2 := h.2; rw [hlead] at h2; unfold utfOk at h2; have hru := HRU.out; simp only [runeAt] at hru; omega)
                          subst hans
                          clear hR0 hco hR0b
                          go_wp2
                          go_ret
                          exact ⟨rfl, HB.out.alloc HB.out.size _⟩
                        · skip
                          have HG2 := Lib.hid (HGOOD.out (by omega) (by rw [hlead]; unfold utfOk; have hru := HRU.out; simp only [runeAt] at hru; omega))
                          rw [hlead] at HG2
                          have hru := HRU.out
                          simp only [runeAt] at hru
                          have r3 : r < 65536 := by omega
                          clear hru
                          by_cases p5 : 55296 ≤ r
                          · have p6 : ¬ (r ≤ 57343) := fun h => p1 ⟨p5, h⟩
                            clear p1
                            clear hR0 hco hR0b
                            go_wp2
                            go_roundg k1
                            case measure => omega
                            case rel => exact ⟨i + 3, by simp, ⟨by omega⟩, ⟨HG2.out.symm⟩, ⟨by have := HF.out; omega⟩, ⟨HB.out.alloc HB.out.size _⟩⟩
                          · clear p1
                            clear hR0 hco hR0b
                            go_wp2
                            go_roundg k1
                            case measure => omega
                            case rel => exact ⟨i + 3, by simp, ⟨by omega⟩, ⟨HG2.out.symm⟩, ⟨by have := HF.out; omega⟩, ⟨HB.out.alloc HB.out.size _⟩⟩
              · have hlz : (N : Int) < (i : Int) + 3 := by omega
                have hans : ANS = false := HBAD.out (by omega) (fun h => by have h2 := h.2; rw [hlead] at h2; unfold utfOk at h2; omega)
                subst hans
                go_wp2
                go_ret
                exact ⟨rfl, HB.out⟩
            · have z4 : ((240 : Int) ≤ (b0 : Int)) := by omega
              have hlead : leadLen b0 = 4 := by unfold leadLen; (repeat' split) <;> omega
              obtain ⟨R0, hR0⟩ : ∃ R0 : Int, ((b0 : Int) - 240) = R0 := ⟨_, rfl⟩
              have hR0b : 0 ≤ R0 ∧ R0 < 16 := by omega
              by_cases hl : i + 4 ≤ N
              · have hlz : ¬ ((N : Int) < (i : Int) + 4) := by omega
                obtain ⟨b1, hb1⟩ : ∃ b1, by4 l0 i 1 = b1 := ⟨_, rfl⟩
                obtain ⟨b2, hb2⟩ : ∃ b2, by4 l0 i 2 = b2 := ⟨_, rfl⟩
                obtain ⟨b3, hb3⟩ : ∃ b3, by4 l0 i 3 = b3 := ⟨_, rfl⟩
                rw [hb1, hb2, hb3] at HBAD HGOOD
                have hc1 : wr.cell? (ad.add (i + 1)) = some (.int .u8 (b1 : Int)) := hb1 ▸ pw_cell_below HB.out (HCJ.out 1 (by omega))
                have hx1 : b1 < 256 := hb1 ▸ (by4_eq l0 HBY.out i 1).2.2
                have hc2 : wr.cell? (ad.add (i + 2)) = some (.int .u8 (b2 : Int)) := hb2 ▸ pw_cell_below HB.out (HCJ.out 2 (by omega))
                have hx2 : b2 < 256 := hb2 ▸ (by4_eq l0 HBY.out i 2).2.2
                have hc3 : wr.cell? (ad.add (i + 3)) = some (.int .u8 (b3 : Int)) := hb3 ▸ pw_cell_below HB.out (HCJ.out 3 (by omega))
                have hx3 : b3 < 256 := hb3 ▸ (by4_eq l0 HBY.out i 3).2.2
                clear hb1 hb2 hb3
                go_wp2
                go_loopg [5, 6] 4 (fun g s5 s6 wx => ∃ (k : Nat) (r : Int), s6 = .int .i64 k ∧ s5 = .int .i64 r ∧ 1 ≤ k ∧ k ≤ 4 ∧ g + k = 5 ∧ Aside0 (Conts b1 b2 b3 k) ∧ Aside0 (r = runeAt b1 b2 b3 R0 k) ∧ 0 ≤ r ∧ r < 8388608 ∧ wx = wr)
                case atStart => exact ⟨1, R0, rfl, rfl, by omega, by omega, by omega, ⟨.inl (by omega), .inl (by omega), .inl (by omega)⟩, ⟨rfl⟩, by omega, by omega, rfl⟩
                case round =>
                  obtain ⟨k, r, rfl, rfl, hk1, hkn, hgk, HCO, HRU, hr1, hr2, rfl⟩ := hrel
                  have hco := HCO.out
                  unfold Conts at hco
                  by_cases hk1 : k = 1
                  · subst hk1
                    have hru := HRU.out
                    simp only [runeAt] at hru
                    have hcz : wr.cell? ⟨ad.block, ad.off + (i + 1), none⟩ = some (.int .u8 (b1 : Int)) := by rw [← add_lit ad (i + 1) (by omega)]; exact hc1
                    by_cases q1 : b1 < 128
                    · have q1z : (b1 : Int) < 128 := by omega
                      have hans : ANS = false := HBAD.out (by omega) (fun h => by have h2 := h.2; rw [hlead] at h2; unfold utfOk at h2; omega)
                      subst hans
                      go_wp2
                      go_ret
                      exact ⟨rfl, HB.out⟩
                    · have q1z : ¬ ((b1 : Int) < 128) := by omega
                      by_cases q2 : 191 < b1
                      · have q2z : (191 : Int) < (b1 : Int) := by omega
                        have hans : ANS = false := HBAD.out (by omega) (fun h => by have h2 := h.2; rw [hlead] at h2; unfold utfOk at h2; omega)
                        subst hans
                        go_wp2
                        go_ret
                        exact ⟨rfl, HB.out⟩
                      · have q2z : ¬ ((191 : Int) < (b1 : Int)) := by omega
                        go_wp2
                        go_roundg (gk - 1)
                        case measure => omega
                        case rel => exact ⟨2, _, rfl, rfl, by omega, by omega, by omega, ⟨by unfold Conts; omega⟩, ⟨by first | rfl | (simp only [runeAt]; omega)⟩, by omega, by omega, rfl⟩
                  · 
                    by_cases hk2 : k = 2
                    · subst hk2
                      have hru := HRU.out
                      simp only [runeAt] at hru
                      have hcz : wr.cell? ⟨ad.block, ad.off + (i + 2), none⟩ = some (.int .u8 (b2 : Int)) := by rw [← add_lit ad (i + 2) (by omega)]; exact hc2
                      by_cases q1 : b2 < 128
                      · have q1z : (b2 : Int) < 128 := by omega
                        have hans : ANS = false := HBAD.out (by omega) (fun h => by have h2 := h.2; rw [hlead] at h2; unfold utfOk at h2; omega)
                        subst hans
                        go_wp2
                        go_ret
                        exact ⟨rfl, HB.out⟩
                      · have q1z : ¬ ((b2 : Int) < 128) := by omega
                        by_cases q2 : 191 < b2
                        · have q2z : (191 : Int) < (b2 : Int) := by omega
                          have hans : ANS = false := HBAD.out (by omega) (fun h => by have h2 := h.2; rw [hlead] at h2; unfold utfOk at h2; omega)
                          subst hans
                          go_wp2
                          go_ret
                          exact ⟨rfl, HB.out⟩
                        · have q2z : ¬ ((191 : Int) < (b2 : Int)) := by omega
                          go_wp2
                          go_roundg (gk - 1)
                          case measure => omega
                          case rel => exact ⟨3, _, rfl, rfl, by omega, by omega, by omega, ⟨by unfold Conts; omega⟩, ⟨by first | rfl | (simp only [runeAt]; omega)⟩, by omega, by omega, rfl⟩
                    · 
                      by_cases hk3 : k = 3
                      · subst hk3
                        have hru := HRU.out
                        simp only [runeAt] at hru
                        have hcz : wr.cell? ⟨ad.block, ad.off + (i + 3), none⟩ = some (.int .u8 (b3 : Int)) := by rw [← add_lit ad (i + 3) (by omega)]; exact hc3
                        by_cases q1 : b3 < 128
                        · have q1z : (b3 : Int) < 128 := by omega
                          have hans : ANS = false := HBAD.out (by omega) (fun h => by have h2 := h.2; rw [hlead] at h2; unfold utfOk at h2; omega)
                          subst hans
                          go_wp2
                          go_ret
                          exact ⟨rfl, HB.out⟩
                        · have q1z : ¬ ((b3 : Int) < 128) := by omega
                          by_cases q2 : 191 < b3
                          · have q2z : (191 : Int) < (b3 : Int) := by omega
                            have hans : ANS = false := HBAD.out (by omega) (fun h => by have h2 := h.2; rw [hlead] at h2; unfold utfOk at h2; omega)
                            subst hans
                            go_wp2
                            go_ret
                            exact ⟨rfl, HB.out⟩
                          · have q2z : ¬ ((191 : Int) < (b3 : Int)) := by omega
                            go_wp2
                            go_roundg (gk - 1)
                            case measure => omega
                            case rel => exact ⟨4, _, rfl, rfl, by omega, by omega, by omega, ⟨by unfold Conts; omega⟩, ⟨by first | rfl | (simp only [runeAt]; omega)⟩, by omega, by omega, rfl⟩
                      · have hkk : k = 4 := by omega
                        subst hkk
                        by_cases p0 : r < 65536
                        · have p_ := p0
                          have hans : ANS = false := HBAD.out (by omega) (fun h => by have h2 := h.2; rw [hlead] at h2; unfold utfOk at h2; have hru := HRU.out; simp only [runeAt] at hru; omega)
                          subst hans
                          clear hR0 hco hR0b
                          go_wp2
                          go_ret
                          exact ⟨rfl, HB.out.alloc HB.out.size _⟩
                        · skip
                          by_cases p1 : 1114111 < r
                          · have p_ := p1
                            have hans : ANS = false := HBAD.out (by omega) (fun h => by have h2 := h.2; rw [hlead] at h2; unfold utfOk at h2; have hru := HRU.out; simp only [runeAt] at hru; omega)
                            subst hans
                            clear hR0 hco hR0b
                            go_wp2
                            go_ret
                            exact ⟨rfl, HB.out.alloc HB.out.size _⟩
                          · skip
                            have HG2 := Lib.hid (HGOOD.out (by omega) (by rw [hlead]; unfold utfOk; have hru := HRU.out; simp only [runeAt] at hru; omega))
                            rw [hlead] at HG2
                            clear hR0 hco hR0b
                            go_wp2
                            go_roundg k1
                            case measure => omega
                            case rel => exact ⟨i + 4, by simp, ⟨by omega⟩, ⟨HG2.out.symm⟩, ⟨by have := HF.out; omega⟩, ⟨HB.out.alloc HB.out.size _⟩⟩
              · have hlz : (N : Int) < (i : Int) + 4 := by omega
                have hans : ANS = false := HBAD.out (by omega) (fun h => by have h2 := h.2; rw [hlead] at h2; unfold utfOk at h2; omega)
                subst hans
                go_wp2
                go_ret
                exact ⟨rfl, HB.out⟩
    · have hiz : ¬ ((i : Int) < (N : Int)) := by omega
      have hv := HV.out
      rw [List.drop_eq_nil_of_le (by rw [HN.out]; omega)] at hv
      have hv' : ANS = true := hv.symm
      subst hv'
      go_wp2
      go_ret
      exact ⟨rfl, HB.out⟩

def murmurationref13_utf.f (l0 : List Int) : Option Bool := if (∀ x ∈ l0, 0 ≤ x ∧ x < 256) ∧ l0.length ≤ 1000000 then some (Lib.validD (Lib.bytesOf l0)) else none
theorem murmurationref13_utf.calls (A0 : Option Addr) (c0 : Nat) (l0 : List Int) (r : Bool) (w : World) (hr0 : Kd.C (Kd.int .u8) w A0 l0.length l0) (hc0 : l0.length ≤ c0) (h : murmurationref13_utf.f l0 = some r) :
    Calls Tryd.prog 20 #[.slice A0 l0.length c0] w fun e w' => e = .returned (.bool r) ∧ Below w.heap.size w w' := by
  unfold murmurationref13_utf.f at h
  split at h
  · rename_i hb
    obtain rfl := Option.some.inj h
    exact utf_calls A0 c0 l0 w (Kd.reads_of_C (enc := Value.int .u8) (d := (0 : Int)) (h1 := fun _ => rfl) hr0) hb.1 hb.2
  · cases h
end Go.Proofs.YtpnghpmgdekmgaaDoor.Q

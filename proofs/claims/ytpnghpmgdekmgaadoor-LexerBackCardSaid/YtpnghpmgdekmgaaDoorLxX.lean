import Derived.Test.YtpnghpmgdekmgaaDoorLxV
namespace Go.Proofs.YtpnghpmgdekmgaaDoor.Q
open Go.RowKit Go.Proofs.YtpnghpmgdekmgaaDoorW.PrintWords Go.Proofs.YtpnghpmgdekmgaaDoorW.PrintLast Go.Proofs.YtpnghpmgdekmgaaDoorW.PrintMore
set_option linter.unusedVariables false
set_option linter.unusedSimpArgs false

set_option maxHeartbeats 16000000 in
set_option maxRecDepth 1000000 in
theorem valid_calls (A : Option Addr) (c : Nat) (s : ByteArray) (w : World) (hr : ReadsInt w .u8 A s.size (bytesOf s)) (hc : s.size ≤ c) (hm : s.size ≤ 9223372036854775807) (hT : Lib.Utf8Tabs 0 1 w) :
    Calls Tryd.prog 14 #[.slice A s.size c] w fun e w' => e = .returned (.bool (Lib.validD s.data.toList)) ∧ Below w.heap.size w w' := by
  obtain ⟨ANS, hANS⟩ : ∃ ANS, Lib.validD s.data.toList = ANS := ⟨_, rfl⟩
  rw [hANS]
  have HRS := Lib.hid hr
  have HT := Lib.hid hT
  have HANS := Lib.hid hANS
  have hs : s.size ≤ 9223372036854775807 := by omega
  clear hr hT hANS
  go_enter Tryd.func14, Tryd.ntmps14
  go_wp2
  clear hc
  go_loopg [0] (s.size + 1) (fun gk s0 wx => Aside0 (Below w.heap.size w wx) ∧ ∃ (B : Option Addr) (t : ByteArray), s0 = .slice B t.size t.size ∧ Aside0 (ReadsInt w .u8 B t.size (bytesOf t)) ∧ Aside0 (Lib.validD t.data.toList = ANS) ∧ Aside0 (t.size < gk) ∧ Aside0 (t.size ≤ 9223372036854775807))
  case atStart => exact ⟨⟨Below.refl _ _⟩, A, s, rfl, ⟨HRS.out⟩, ⟨HANS.out⟩, ⟨by omega⟩, ⟨hs⟩⟩
  case round =>
    obtain ⟨HBW, B, t, rfl, HRT, HV, HG, HTS⟩ := hrel
    clear HRS HANS hs
    have hts := HTS.out
    by_cases h0 : 0 < t.size
    · obtain ⟨g', rfl⟩ : ∃ g', gk = g' + 1 := ⟨gk - 1, by have := HG.out; omega⟩
      have h0z : (0 : Int) < (t.size : Int) := by omega
      obtain ⟨ad, rfl, cc0, ccs⟩ := bytes_cells (HRT.out.below HBW.out) h0
      have CCS := Lib.hid ccs
      clear ccs
      obtain ⟨x0, hx0⟩ : ∃ x0, t.get! 0 = x0 := ⟨_, rfl⟩
      rw [hx0] at cc0
      have hx0lt : x0.toNat < 256 := x0.toNat_lt
      by_cases hasc : x0.toNat < 128
      · as_aux_lemma =>
          -- a byte below 128: the fast path
          have hascz : (x0.toNat : Int) < 128 := by omega
          have a1 : Lib.Asc t 1 := Lib.asc_one t h0 (by rw [hx0]; exact hasc)
          obtain ⟨A1, cut1, r1⟩ := cut_bytes w (some ad) t 1 (by omega) HRT.out
          have cut1' : ∀ W : World, (Instr.slice 22 (.slice (some ad) t.size t.size) (some (.int .i64 1)) none none).run Tryd.prog W = .ok (.slice A1 (t.extract 1 t.size).size (t.extract 1 t.size).size) W := cut1
          obtain ⟨t1, ht1⟩ : ∃ t1, t.extract 1 t.size = t1 := ⟨_, rfl⟩
          have z1 : t1.size + 1 = t.size := by rw [← ht1, Lib.ext_size]; omega
          have V1 := Lib.hid (show Lib.validD t1.data.toList = ANS by rw [← ht1, Lib.valid_skip t 1 a1]; exact HV.out)
          rw [ht1] at cut1' r1
          have R1 := Lib.hid r1
          clear a1 cut1 r1 HV ht1 CCS hx0 HT
          by_cases c8 : 8 < t1.size
          · have c8z : (8 : Int) < (t1.size : Int) := by omega
            obtain ⟨A1w, hA1⟩ : ∃ A1w, Lib.leNat [t1.get! 0, t1.get! 1, t1.get! 2, t1.get! 3, t1.get! 4, t1.get! 5, t1.get! 6, t1.get! 7] = A1w := ⟨_, rfl⟩
            have lA1 : A1w < 18446744073709551616 := hA1 ▸ Lib.word_lt t1
            have cW1 := Lib.hid (word_calls A1 t1.size t1 wr (R1.out.below HBW.out) (by omega))
            have kA1 := Lib.word_asc t1 (by omega)
            rw [hA1] at kA1 cW1
            have hand1 : bits .and .u64 (A1w : Int) 9259542123273814144 = ((A1w &&& 9259542123273814144 : Nat) : Int) := u64_and_nat A1w 9259542123273814144 lA1 (by omega)
            obtain ⟨Z1, hZ1⟩ : ∃ Z1, A1w &&& 9259542123273814144 = Z1 := ⟨_, rfl⟩
            rw [hZ1] at hand1 kA1
            clear hA1 hZ1
            by_cases hz1 : Z1 = 0
            · have hz1b : ((Z1 : Int) == 0) = true := by simp [hz1]
              have a8 : Lib.Asc t1 8 := kA1.1 hz1
              obtain ⟨A2, cut2, r2⟩ := cut_bytes w A1 t1 8 (by omega) R1.out
              have cut2' : ∀ W : World, (Instr.slice 22 (.slice A1 t1.size t1.size) (some (.int .i64 8)) none none).run Tryd.prog W = .ok (.slice A2 (t1.extract 8 t1.size).size (t1.extract 8 t1.size).size) W := cut2
              obtain ⟨t2, ht2⟩ : ∃ t2, t1.extract 8 t1.size = t2 := ⟨_, rfl⟩
              have z2 : t2.size + 8 = t1.size := by rw [← ht2, Lib.ext_size]; omega
              have V2 := Lib.hid (show Lib.validD t2.data.toList = ANS by rw [← ht2, Lib.valid_skip t1 8 a8]; exact V1.out)
              rw [ht2] at cut2' r2
              have R2 := Lib.hid r2
              clear kA1 a8 cut2 r2 ht2 V1 hz1
              go_wp2_with (go_at_call 19; refine cW1.out.mono ?_; rintro e W1 ⟨rfl, q1, rfl⟩)
              have HB1 := Aside0.mk (pw_below_drewN HBW.out q1)
              generalize wr.drewN q1 = wq at HB1 ⊢
              clear cW1 HBW
              by_cases c16 : 16 < t2.size
              · have c16z : (16 : Int) < (t2.size : Int) := by omega
                have s8z : (8 : Int) ≤ (t2.size : Int) := by omega
                obtain ⟨A2b, kt2b, rt2b⟩ := cut_bytes w A2 t2 8 (by omega) R2.out
                have cut_t2b : ∀ W : World, (Instr.slice 22 (.slice A2 t2.size t2.size) (some (.int .i64 8)) none none).run Tryd.prog W = .ok (.slice A2b (t2.extract 8 t2.size).size (t2.extract 8 t2.size).size) W := kt2b
                obtain ⟨t2b, ht2b⟩ : ∃ t2b, t2.extract 8 t2.size = t2b := ⟨_, rfl⟩
                have zt2b : t2b.size + 8 = t2.size := by rw [← ht2b, Lib.ext_size]; omega
                rw [ht2b] at cut_t2b rt2b
                have Rt2b := Lib.hid rt2b
                clear kt2b rt2b
                obtain ⟨W2, hW2⟩ : ∃ W2, Lib.leNat [t2.get! 0, t2.get! 1, t2.get! 2, t2.get! 3, t2.get! 4, t2.get! 5, t2.get! 6, t2.get! 7] = W2 := ⟨_, rfl⟩
                have lW2 : W2 < 18446744073709551616 := hW2 ▸ Lib.word_lt t2
                have cW2 : ∀ n, Calls Tryd.prog 19 #[.slice A2 t2.size t2.size] (wq.drewN n) fun e w' => e = .returned (.int .u64 W2) ∧ ∃ q, w' = (wq.drewN n).drewN q := fun n => by rw [← hW2]; exact word_calls A2 t2.size t2 (wq.drewN n) (R2.out.below (pw_below_drewN HB1.out n)) (by omega)
                have CW2 := Lib.hid cW2
                clear cW2
                have kW2 := Lib.word_asc t2 (by omega)
                rw [hW2] at kW2
                obtain ⟨W3, hW3⟩ : ∃ W3, Lib.leNat [t2b.get! 0, t2b.get! 1, t2b.get! 2, t2b.get! 3, t2b.get! 4, t2b.get! 5, t2b.get! 6, t2b.get! 7] = W3 := ⟨_, rfl⟩
                have lW3 : W3 < 18446744073709551616 := hW3 ▸ Lib.word_lt t2b
                have cW3 : ∀ n, Calls Tryd.prog 19 #[.slice A2b t2b.size t2b.size] (wq.drewN n) fun e w' => e = .returned (.int .u64 W3) ∧ ∃ q, w' = (wq.drewN n).drewN q := fun n => by rw [← hW3]; exact word_calls A2b t2b.size t2b (wq.drewN n) (Rt2b.out.below (pw_below_drewN HB1.out n)) (by omega)
                have CW3 := Lib.hid cW3
                clear cW3
                have kW3 := Lib.word_asc t2b (by omega)
                rw [hW3] at kW3
                have hor2 : bits .or .u64 (W2 : Int) (W3 : Int) = ((W2 ||| W3 : Nat) : Int) := u64_or_nat W2 W3 lW2 lW3
                have lor2 : W2 ||| W3 < 18446744073709551616 := Nat.or_lt_two_pow (n := 64) lW2 lW3
                have hand2 : bits .and .u64 ((W2 ||| W3 : Nat) : Int) 9259542123273814144 = (((W2 ||| W3) &&& 9259542123273814144 : Nat) : Int) := u64_and_nat _ 9259542123273814144 lor2 (by omega)
                have k2 : (W2 ||| W3) &&& 9259542123273814144 = 0 → Lib.Asc t2 16 := fun h0' => by
                  obtain ⟨e1, e2⟩ := (Lib.or_mask W2 W3 _).1 h0'
                  exact Lib.asc_add t2 8 8 (kW2.1 e1) (by rw [ht2b]; exact kW3.1 e2)
                obtain ⟨O2, hO2⟩ : ∃ O2, W2 ||| W3 = O2 := ⟨_, rfl⟩
                rw [hO2] at hor2 hand2 k2
                obtain ⟨Z2, hZ2⟩ : ∃ Z2, O2 &&& 9259542123273814144 = Z2 := ⟨_, rfl⟩
                rw [hZ2] at hand2 k2
                have K2 := Lib.hid k2
                clear k2 kW2 kW3 lor2 hO2 hZ2 hW2 hW3 ht2b
                by_cases hz2 : Z2 = 0
                · have hz2b : ((Z2 : Int) == 0) = true := by simp [hz2]
                  have a16 := K2.out hz2
                  obtain ⟨A3, kt3, rt3⟩ := cut_bytes w A2 t2 16 (by omega) R2.out
                  have cut_t3 : ∀ W : World, (Instr.slice 22 (.slice A2 t2.size t2.size) (some (.int .i64 16)) none none).run Tryd.prog W = .ok (.slice A3 (t2.extract 16 t2.size).size (t2.extract 16 t2.size).size) W := kt3
                  obtain ⟨t3, ht3⟩ : ∃ t3, t2.extract 16 t2.size = t3 := ⟨_, rfl⟩
                  have zt3 : t3.size + 16 = t2.size := by rw [← ht3, Lib.ext_size]; omega
                  rw [ht3] at cut_t3 rt3
                  have Rt3 := Lib.hid rt3
                  clear kt3 rt3
                  have V3 := Lib.hid (show Lib.validD t3.data.toList = ANS by rw [← ht3, Lib.valid_skip t2 16 a16]; exact V2.out)
                  clear a16 V2 hz2 ht3
                  go_quiet (first | (go_at_call 19; (with_reducible refine Calls.quiet_of (CW2.out _))) | (go_at_call 19; (with_reducible refine Calls.quiet_of (CW3.out _))))
                  have HB2 := Aside0.mk (pw_below_drewN HB1.out nq)
                  generalize wq.drewN nq = wq2 at HB2 ⊢
                  clear CW2 CW3 HB1
                  go_wp2
                  go_loopg [0] (t3.size + 1) (fun g2 s0 wx => Aside0 (Below w.heap.size w wx) ∧ ∃ (B : Option Addr) (u : ByteArray), s0 = .slice B u.size u.size ∧ Aside0 (ReadsInt w .u8 B u.size (bytesOf u)) ∧ Aside0 (Lib.validD u.data.toList = ANS) ∧ Aside0 (u.size < g2) ∧ Aside0 (u.size ≤ t3.size))
                  case atStart => exact ⟨HB2, A3, t3, rfl, ⟨Rt3.out⟩, ⟨V3.out⟩, ⟨by omega⟩, ⟨Nat.le_refl _⟩⟩
                  case round =>
                    obtain ⟨HBU, D, u, rfl, HRU, VU, GU, UT⟩ := hrel
                    have hut := UT.out
                    have RU := Lib.hid HRU.out
                    clear HRU hor2 hand2 hand1
                    by_cases c32 : 32 < u.size
                    · obtain ⟨g3, rfl⟩ : ∃ g3, gk = g3 + 1 := ⟨gk - 1, by have := GU.out; omega⟩
                      have c32z : (32 : Int) < (u.size : Int) := by omega
                      obtain ⟨Ab, kub, rub⟩ := cut_bytes w D u 8 (by omega) RU.out
                      have cut_ub : ∀ W : World, (Instr.slice 22 (.slice D u.size u.size) (some (.int .i64 8)) none none).run Tryd.prog W = .ok (.slice Ab (u.extract 8 u.size).size (u.extract 8 u.size).size) W := kub
                      obtain ⟨ub, hub⟩ : ∃ ub, u.extract 8 u.size = ub := ⟨_, rfl⟩
                      have zub : ub.size + 8 = u.size := by rw [← hub, Lib.ext_size]; omega
                      rw [hub] at cut_ub rub
                      have Rub := Lib.hid rub
                      clear kub rub
                      obtain ⟨Ac, kuc, ruc⟩ := cut_bytes w D u 16 (by omega) RU.out
                      have cut_uc : ∀ W : World, (Instr.slice 22 (.slice D u.size u.size) (some (.int .i64 16)) none none).run Tryd.prog W = .ok (.slice Ac (u.extract 16 u.size).size (u.extract 16 u.size).size) W := kuc
                      obtain ⟨uc, huc⟩ : ∃ uc, u.extract 16 u.size = uc := ⟨_, rfl⟩
                      have zuc : uc.size + 16 = u.size := by rw [← huc, Lib.ext_size]; omega
                      rw [huc] at cut_uc ruc
                      have Ruc := Lib.hid ruc
                      clear kuc ruc
                      obtain ⟨Ad, kud, rud⟩ := cut_bytes w D u 24 (by omega) RU.out
                      have cut_ud : ∀ W : World, (Instr.slice 22 (.slice D u.size u.size) (some (.int .i64 24)) none none).run Tryd.prog W = .ok (.slice Ad (u.extract 24 u.size).size (u.extract 24 u.size).size) W := kud
                      obtain ⟨ud, hud⟩ : ∃ ud, u.extract 24 u.size = ud := ⟨_, rfl⟩
                      have zud : ud.size + 24 = u.size := by rw [← hud, Lib.ext_size]; omega
                      rw [hud] at cut_ud rud
                      have Rud := Lib.hid rud
                      clear kud rud
                      obtain ⟨B0, hB0⟩ : ∃ B0, Lib.leNat [u.get! 0, u.get! 1, u.get! 2, u.get! 3, u.get! 4, u.get! 5, u.get! 6, u.get! 7] = B0 := ⟨_, rfl⟩
                      have lB0 : B0 < 18446744073709551616 := hB0 ▸ Lib.word_lt u
                      have cB0 : ∀ n, Calls Tryd.prog 19 #[.slice D u.size u.size] (wr.drewN n) fun e w' => e = .returned (.int .u64 B0) ∧ ∃ q, w' = (wr.drewN n).drewN q := fun n => by rw [← hB0]; exact word_calls D u.size u (wr.drewN n) (RU.out.below (pw_below_drewN HBU.out n)) (by omega)
                      have CB0 := Lib.hid cB0
                      clear cB0
                      have kB0 := Lib.word_asc u (by omega)
                      rw [hB0] at kB0
                      obtain ⟨B1, hB1⟩ : ∃ B1, Lib.leNat [ub.get! 0, ub.get! 1, ub.get! 2, ub.get! 3, ub.get! 4, ub.get! 5, ub.get! 6, ub.get! 7] = B1 := ⟨_, rfl⟩
                      have lB1 : B1 < 18446744073709551616 := hB1 ▸ Lib.word_lt ub
                      have cB1 : ∀ n, Calls Tryd.prog 19 #[.slice Ab ub.size ub.size] (wr.drewN n) fun e w' => e = .returned (.int .u64 B1) ∧ ∃ q, w' = (wr.drewN n).drewN q := fun n => by rw [← hB1]; exact word_calls Ab ub.size ub (wr.drewN n) (Rub.out.below (pw_below_drewN HBU.out n)) (by omega)
                      have CB1 := Lib.hid cB1
                      clear cB1
                      have kB1 := Lib.word_asc ub (by omega)
                      rw [hB1] at kB1
                      obtain ⟨B2, hB2⟩ : ∃ B2, Lib.leNat [uc.get! 0, uc.get! 1, uc.get! 2, uc.get! 3, uc.get! 4, uc.get! 5, uc.get! 6, uc.get! 7] = B2 := ⟨_, rfl⟩
                      have lB2 : B2 < 18446744073709551616 := hB2 ▸ Lib.word_lt uc
                      have cB2 : ∀ n, Calls Tryd.prog 19 #[.slice Ac uc.size uc.size] (wr.drewN n) fun e w' => e = .returned (.int .u64 B2) ∧ ∃ q, w' = (wr.drewN n).drewN q := fun n => by rw [← hB2]; exact word_calls Ac uc.size uc (wr.drewN n) (Ruc.out.below (pw_below_drewN HBU.out n)) (by omega)
                      have CB2 := Lib.hid cB2
                      clear cB2
                      have kB2 := Lib.word_asc uc (by omega)
                      rw [hB2] at kB2
                      obtain ⟨B3, hB3⟩ : ∃ B3, Lib.leNat [ud.get! 0, ud.get! 1, ud.get! 2, ud.get! 3, ud.get! 4, ud.get! 5, ud.get! 6, ud.get! 7] = B3 := ⟨_, rfl⟩
                      have lB3 : B3 < 18446744073709551616 := hB3 ▸ Lib.word_lt ud
                      have cB3 : ∀ n, Calls Tryd.prog 19 #[.slice Ad ud.size ud.size] (wr.drewN n) fun e w' => e = .returned (.int .u64 B3) ∧ ∃ q, w' = (wr.drewN n).drewN q := fun n => by rw [← hB3]; exact word_calls Ad ud.size ud (wr.drewN n) (Rud.out.below (pw_below_drewN HBU.out n)) (by omega)
                      have CB3 := Lib.hid cB3
                      clear cB3
                      have kB3 := Lib.word_asc ud (by omega)
                      rw [hB3] at kB3
                      have ho1 : bits .or .u64 (B0 : Int) (B1 : Int) = ((B0 ||| B1 : Nat) : Int) := u64_or_nat B0 B1 lB0 lB1
                      have ho2 : bits .or .u64 (B2 : Int) (B3 : Int) = ((B2 ||| B3 : Nat) : Int) := u64_or_nat B2 B3 lB2 lB3
                      have lo1 : B0 ||| B1 < 18446744073709551616 := Nat.or_lt_two_pow (n := 64) lB0 lB1
                      have lo2 : B2 ||| B3 < 18446744073709551616 := Nat.or_lt_two_pow (n := 64) lB2 lB3
                      have ho3 : bits .or .u64 ((B0 ||| B1 : Nat) : Int) ((B2 ||| B3 : Nat) : Int) = (((B0 ||| B1) ||| (B2 ||| B3) : Nat) : Int) := u64_or_nat _ _ lo1 lo2
                      have lo3 : (B0 ||| B1) ||| (B2 ||| B3) < 18446744073709551616 := Nat.or_lt_two_pow (n := 64) lo1 lo2
                      have hand3 : bits .and .u64 (((B0 ||| B1) ||| (B2 ||| B3) : Nat) : Int) 9259542123273814144 = ((((B0 ||| B1) ||| (B2 ||| B3)) &&& 9259542123273814144 : Nat) : Int) := u64_and_nat _ 9259542123273814144 lo3 (by omega)
                      have k3 : ((B0 ||| B1) ||| (B2 ||| B3)) &&& 9259542123273814144 = 0 → Lib.Asc u 32 := fun h0' => by
                        obtain ⟨e01, e23⟩ := (Lib.or_mask _ _ _).1 h0'
                        obtain ⟨e0, e1⟩ := (Lib.or_mask _ _ _).1 e01
                        obtain ⟨e2, e3⟩ := (Lib.or_mask _ _ _).1 e23
                        have s16 : Lib.Asc u 16 := Lib.asc_add u 8 8 (kB0.1 e0) (by rw [hub]; exact kB1.1 e1)
                        have s24 : Lib.Asc u 24 := Lib.asc_add u 16 8 s16 (by rw [huc]; exact kB2.1 e2)
                        exact Lib.asc_add u 24 8 s24 (by rw [hud]; exact kB3.1 e3)
                      obtain ⟨P1, hP1⟩ : ∃ P1, B0 ||| B1 = P1 := ⟨_, rfl⟩
                      obtain ⟨P2, hP2⟩ : ∃ P2, B2 ||| B3 = P2 := ⟨_, rfl⟩
                      rw [hP1, hP2] at ho3 hand3 k3
                      rw [hP1] at ho1
                      rw [hP2] at ho2
                      obtain ⟨P3, hP3⟩ : ∃ P3, P1 ||| P2 = P3 := ⟨_, rfl⟩
                      rw [hP3] at ho3 hand3 k3
                      obtain ⟨Z3, hZ3⟩ : ∃ Z3, P3 &&& 9259542123273814144 = Z3 := ⟨_, rfl⟩
                      rw [hZ3] at hand3 k3
                      have K3 := Lib.hid k3
                      have s8u : (8 : Int) ≤ (u.size : Int) := by omega
                      have s16u : (16 : Int) ≤ (u.size : Int) := by omega
                      have s24u : (24 : Int) ≤ (u.size : Int) := by omega
                      clear k3 kB0 kB1 kB2 kB3 lo1 lo2 lo3 hP1 hP2 hP3 hZ3 hB0 hB1 hB2 hB3 hub huc hud
                      by_cases hz3 : Z3 = 0
                      · have hz3b : ((Z3 : Int) == 0) = true := by simp [hz3]
                        have a32 := K3.out hz3
                        obtain ⟨A5, ku2, ru2⟩ := cut_bytes w D u 32 (by omega) RU.out
                        have cut_u2 : ∀ W : World, (Instr.slice 22 (.slice D u.size u.size) (some (.int .i64 32)) none none).run Tryd.prog W = .ok (.slice A5 (u.extract 32 u.size).size (u.extract 32 u.size).size) W := ku2
                        obtain ⟨u2, hu2⟩ : ∃ u2, u.extract 32 u.size = u2 := ⟨_, rfl⟩
                        have zu2 : u2.size + 32 = u.size := by rw [← hu2, Lib.ext_size]; omega
                        rw [hu2] at cut_u2 ru2
                        have Ru2 := Lib.hid ru2
                        clear ku2 ru2
                        have VU2 := Lib.hid (show Lib.validD u2.data.toList = ANS by rw [← hu2, Lib.valid_skip u 32 a32]; exact VU.out)
                        clear a32 hz3 hu2
                        go_wp2_with fail
                        go_quiet (first | (go_at_call 19; (with_reducible refine Calls.quiet_of (CB0.out _))) | (go_at_call 19; (with_reducible refine Calls.quiet_of (CB1.out _))) | (go_at_call 19; (with_reducible refine Calls.quiet_of (CB2.out _))) | (go_at_call 19; (with_reducible refine Calls.quiet_of (CB3.out _))))
                        go_wp2
                        go_roundg g3
                        case measure => omega
                        case rel => exact ⟨⟨pw_below_drewN HBU.out nq⟩, A5, u2, rfl, ⟨Ru2.out⟩, ⟨VU2.out⟩, ⟨by have := GU.out; omega⟩, ⟨by omega⟩⟩
                      · have hz3b : ((Z3 : Int) == 0) = false := by simp; omega
                        go_wp2_with fail
                        go_quiet (first | (go_at_call 19; (with_reducible refine Calls.quiet_of (CB0.out _))) | (go_at_call 19; (with_reducible refine Calls.quiet_of (CB1.out _))) | (go_at_call 19; (with_reducible refine Calls.quiet_of (CB2.out _))) | (go_at_call 19; (with_reducible refine Calls.quiet_of (CB3.out _))))
                        go_wp2
                        go_roundg g'
                        case measure => omega
                        case rel => exact ⟨⟨pw_below_drewN HBU.out nq⟩, D, u, rfl, ⟨RU.out⟩, ⟨VU.out⟩, ⟨by have := HG.out; omega⟩, ⟨by omega⟩⟩
                    · have c32z : ¬ ((32 : Int) < (u.size : Int)) := by omega
                      have c32b : decide ((32 : Int) < (u.size : Int)) = false := decide_eq_false c32z
                      go_wp2_with fail
                      go_quiet (fail)
                      go_wp2
                      go_roundg g'
                      case measure => omega
                      case rel => exact ⟨⟨pw_below_drewN HBU.out nq⟩, D, u, rfl, ⟨RU.out⟩, ⟨VU.out⟩, ⟨by have := HG.out; omega⟩, ⟨by omega⟩⟩
                · have hz2b : ((Z2 : Int) == 0) = false := by simp; omega
                  go_quiet (first | (go_at_call 19; (with_reducible refine Calls.quiet_of (CW2.out _))) | (go_at_call 19; (with_reducible refine Calls.quiet_of (CW3.out _))))
                  go_wp2
                  go_roundg g'
                  case measure => omega
                  case rel => exact ⟨⟨pw_below_drewN HB1.out nq⟩, A2, t2, rfl, ⟨R2.out⟩, ⟨V2.out⟩, ⟨by have := HG.out; omega⟩, ⟨by omega⟩⟩
              · have c16z : ¬ ((16 : Int) < (t2.size : Int)) := by omega
                have c16b : decide ((16 : Int) < (t2.size : Int)) = false := decide_eq_false c16z
                go_quiet (fail)
                go_wp2
                go_roundg g'
                case measure => omega
                case rel => exact ⟨⟨pw_below_drewN HB1.out nq⟩, A2, t2, rfl, ⟨R2.out⟩, ⟨V2.out⟩, ⟨by have := HG.out; omega⟩, ⟨by omega⟩⟩
            · have hz1b : ((Z1 : Int) == 0) = false := by simp; omega
              go_wp2_with (go_at_call 19; refine cW1.out.mono ?_; rintro e W1 ⟨rfl, q1, rfl⟩)
              go_roundg g'
              case measure => omega
              case rel => exact ⟨⟨pw_below_drewN HBW.out q1⟩, A1, t1, rfl, ⟨R1.out⟩, ⟨V1.out⟩, ⟨by have := HG.out; omega⟩, ⟨by omega⟩⟩
          · have c8z : ¬ ((8 : Int) < (t1.size : Int)) := by omega
            go_wp2
            go_roundg g'
            case measure => omega
            case rel => exact ⟨HBW, A1, t1, rfl, ⟨R1.out⟩, ⟨V1.out⟩, ⟨by have := HG.out; omega⟩, ⟨by omega⟩⟩
      · -- a lead byte from 128 on
        have hge : 128 ≤ x0.toNat := by omega
        have hascz : ¬ ((x0.toNat : Int) < 128) := by omega
        obtain ⟨x1, hx1⟩ : ∃ x1, t.get! 1 = x1 := ⟨_, rfl⟩
        obtain ⟨x2, hx2⟩ : ∃ x2, t.get! 2 = x2 := ⟨_, rfl⟩
        obtain ⟨x3, hx3⟩ : ∃ x3, t.get! 3 = x3 := ⟨_, rfl⟩
        have l1 := x1.toNat_lt; have l2 := x2.toNat_lt; have l3 := x3.toNat_lt
        have hne : t.data.toList ≠ [] := fun h => by rw [Lib.size_eq, h] at h0; simp at h0
        have hlead := Lib.validD_lead t.data.toList hne (by rw [Lib.getD_get!', hx0]; exact hge)
        rw [Lib.getD_get!', Lib.getD_get!', Lib.getD_get!', Lib.getD_get!', hx0, hx1, hx2, hx3, ← Lib.size_eq, HV.out] at hlead
        have hTr := Utf8Tabs_below HT.out HBW.out
        have hc0 := hTr.1 x0.toNat hx0lt
        have hXlt : Lib.firstT x0.toNat < 256 := by rcases Lib.firstT_cases x0.toNat with h | h | h | h | h | h | h | h | h <;> omega
        obtain ⟨X, hX⟩ : ∃ X, Lib.firstT x0.toNat = X := ⟨_, rfl⟩
        rw [hX] at hc0 hXlt hlead
        have h7 := and7b ⟨X, hXlt⟩
        simp only at h7
        have ha0 : wr.cell? ⟨1, X / 16 * 2, none⟩ = some (.int .u8 (Lib.accLo (X / 16))) := by rw [Nat.mul_comm]; exact (hTr.2 (X / 16) (by omega)).1
        have ha1 : wr.cell? ⟨1, X / 16 * 2 + 1, none⟩ = some (.int .u8 (Lib.accHi (X / 16))) := by rw [Nat.mul_comm]; exact (hTr.2 (X / 16) (by omega)).2
        obtain ⟨LO, hLO⟩ : ∃ LO, Lib.accLo (X / 16) = LO := ⟨_, rfl⟩
        obtain ⟨HI, hHI⟩ : ∃ HI, Lib.accHi (X / 16) = HI := ⟨_, rfl⟩
        rw [hLO] at ha0 hlead
        rw [hHI] at ha1 hlead
        obtain ⟨SZ, hSZ⟩ : ∃ SZ, X % 8 = SZ := ⟨_, rfl⟩
        rw [hSZ] at hlead
        have hb1 : 1 < t.size → ∀ o, (wr.alloc o).cell? ⟨ad.block, ad.off + 1, none⟩ = some (.int .u8 (x1.toNat : Int)) := fun h o => by rw [← hx1]; exact CCS.out 0 h o
        have hb2 : 2 < t.size → ∀ o, (wr.alloc o).cell? ⟨ad.block, ad.off + 2, none⟩ = some (.int .u8 (x2.toNat : Int)) := fun h o => by rw [← hx2]; exact CCS.out 1 h o
        have hb3 : 3 < t.size → ∀ o, (wr.alloc o).cell? ⟨ad.block, ad.off + 3, none⟩ = some (.int .u8 (x3.toNat : Int)) := fun h o => by rw [← hx3]; exact CCS.out 2 h o
        have HB1 := Lib.hid hb1
        have HB2 := Lib.hid hb2
        have HB3 := Lib.hid hb3
        have HL := Lib.hid hlead
        clear hTr HT hX HV hLO hHI hne hb1 hb2 hb3 hlead CCS hx0 hx1 hx2 hx3
        by_cases s2 : SZ = 2
        · as_aux_lemma =>
            subst s2
            have hSZz : (X : Int) % 8 = 2 := by omega
            have hSZb : (((X : Int) % 8) == 2) = true := by simp; omega
            have hlead := HL.out
            simp only [Lib.checkN, Nat.reduceEqDiff, if_true, if_false] at hlead
            have HL2 := Lib.hid hlead
            clear hlead HL
            go_upto_region 18 with fail
            go_cut [103] from 85 to 103 (fun c wx => c = .bool (decide (t.size < 2 ∨ x1.toNat < LO ∨ HI < x1.toNat)) ∧ Aside0 (Below w.heap.size w wx))
            case first =>
              by_cases q0 : t.size < 2
              · have q0z : (t.size : Int) < 2 := by omega
                go_quiet (fail)
                go_wp2
                go_meet
                exact ⟨congrArg Value.bool (decide_eq_true (p := t.size < 2 ∨ x1.toNat < LO ∨ HI < x1.toNat) (by omega)).symm, ⟨pw_below_drewN (HBW.out.alloc HBW.out.size _) _⟩⟩
              · have q0z : ¬ ((t.size : Int) < 2) := by omega
                have hz1 : (1 : Int) < (t.size : Int) := by omega
                have hp1 : 1 < t.size := by omega
                have hs1 := HB1.out hp1
                by_cases q1 : x1.toNat < LO
                · have q1z : (x1.toNat : Int) < (LO : Int) := by omega
                  go_quiet (fail)
                  go_wp2
                  go_meet
                  exact ⟨congrArg Value.bool (decide_eq_true (p := t.size < 2 ∨ x1.toNat < LO ∨ HI < x1.toNat) (by omega)).symm, ⟨pw_below_drewN (HBW.out.alloc HBW.out.size _) _⟩⟩
                · have q1z : ¬ ((x1.toNat : Int) < (LO : Int)) := by omega
                  by_cases q2 : HI < x1.toNat
                  · have q2z : (HI : Int) < (x1.toNat : Int) := by omega
                    go_quiet (fail)
                    go_wp2
                    go_meet
                    exact ⟨congrArg Value.bool (decide_eq_true (p := t.size < 2 ∨ x1.toNat < LO ∨ HI < x1.toNat) (by omega)).symm, ⟨pw_below_drewN (HBW.out.alloc HBW.out.size _) _⟩⟩
                  · have q2z : ¬ ((HI : Int) < (x1.toNat : Int)) := by omega
                    go_quiet (fail)
                    go_wp2
                    go_meet
                    exact ⟨congrArg Value.bool (decide_eq_false (p := t.size < 2 ∨ x1.toNat < LO ∨ HI < x1.toNat) (by omega)).symm, ⟨pw_below_drewN (HBW.out.alloc HBW.out.size _) _⟩⟩
            case rest =>
              obtain ⟨rfl, HBC⟩ := hcut
              by_cases hb : t.size < 2 ∨ x1.toNat < LO ∨ HI < x1.toNat
              · have hbd : decide (t.size < 2 ∨ x1.toNat < LO ∨ HI < x1.toNat) = true := decide_eq_true hb
                have hl2 := HL2.out
                rw [if_pos hb] at hl2
                have HL3 := Lib.hid (show ANS = false from hl2)
                clear hl2
                go_wp2
                all_goals (go_ret; exact ⟨by rw [HL3.out]; rfl, HBC.out⟩)
              · have hbd : decide (t.size < 2 ∨ x1.toNat < LO ∨ HI < x1.toNat) = false := decide_eq_false hb
                have hl2 := HL2.out
                rw [if_neg hb] at hl2
                have HL3 := Lib.hid (show ANS = Lib.validD (List.drop 2 t.data.toList) from hl2)
                clear hl2
                obtain ⟨A9, k9, r9⟩ := cut_bytes w (some ad) t 2 (by omega) HRT.out
                have cut9 : ∀ W : World, (Instr.slice 22 (.slice (some ad) t.size t.size) (some (.int .i64 2)) none none).run Tryd.prog W = .ok (.slice A9 (t.extract 2 t.size).size (t.extract 2 t.size).size) W := k9
                have hz9 := Lib.ext_size t 2
                have hl9 := Lib.ext_list t 2
                generalize t.extract 2 t.size = t9 at *
                have R9 := Lib.hid r9
                have L9 := Lib.hid hl9
                have Z9 := Lib.hid hz9
                clear k9 r9 hl9 hz9
                go_wp2
                go_roundg g'
                case measure => omega
                case rel => exact ⟨HBC, A9, t9, rfl, ⟨R9.out⟩, ⟨by rw [L9.out]; exact HL3.out.symm⟩, ⟨by have := HG.out; have := Z9.out; omega⟩, ⟨by have := Z9.out; omega⟩⟩
        by_cases s3 : SZ = 3
        · as_aux_lemma =>
            subst s3
            have hSZz : (X : Int) % 8 = 3 := by omega
            have e2b : (((X : Int) % 8) == 2) = false := by simp; omega
            have hSZb : (((X : Int) % 8) == 3) = true := by simp; omega
            have hlead := HL.out
            simp only [Lib.checkN, Nat.reduceEqDiff, if_true, if_false] at hlead
            have HL2 := Lib.hid hlead
            clear hlead HL
            go_upto_region 22 with fail
            go_cut [138] from 108 to 138 (fun c wx => c = .bool (decide (t.size < 3 ∨ x1.toNat < LO ∨ HI < x1.toNat ∨ x2.toNat < 128 ∨ 191 < x2.toNat)) ∧ Aside0 (Below w.heap.size w wx))
            case first =>
              by_cases q0 : t.size < 3
              · have q0z : (t.size : Int) < 3 := by omega
                go_quiet (fail)
                go_wp2
                go_meet
                exact ⟨congrArg Value.bool (decide_eq_true (p := t.size < 3 ∨ x1.toNat < LO ∨ HI < x1.toNat ∨ x2.toNat < 128 ∨ 191 < x2.toNat) (by omega)).symm, ⟨pw_below_drewN (HBW.out.alloc HBW.out.size _) _⟩⟩
              · have q0z : ¬ ((t.size : Int) < 3) := by omega
                have hz1 : (1 : Int) < (t.size : Int) := by omega
                have hp1 : 1 < t.size := by omega
                have hs1 := HB1.out hp1
                have hz2 : (2 : Int) < (t.size : Int) := by omega
                have hp2 : 2 < t.size := by omega
                have hs2 := HB2.out hp2
                by_cases q1 : x1.toNat < LO
                · have q1z : (x1.toNat : Int) < (LO : Int) := by omega
                  go_quiet (fail)
                  go_wp2
                  go_meet
                  exact ⟨congrArg Value.bool (decide_eq_true (p := t.size < 3 ∨ x1.toNat < LO ∨ HI < x1.toNat ∨ x2.toNat < 128 ∨ 191 < x2.toNat) (by omega)).symm, ⟨pw_below_drewN (HBW.out.alloc HBW.out.size _) _⟩⟩
                · have q1z : ¬ ((x1.toNat : Int) < (LO : Int)) := by omega
                  by_cases q2 : HI < x1.toNat
                  · have q2z : (HI : Int) < (x1.toNat : Int) := by omega
                    go_quiet (fail)
                    go_wp2
                    go_meet
                    exact ⟨congrArg Value.bool (decide_eq_true (p := t.size < 3 ∨ x1.toNat < LO ∨ HI < x1.toNat ∨ x2.toNat < 128 ∨ 191 < x2.toNat) (by omega)).symm, ⟨pw_below_drewN (HBW.out.alloc HBW.out.size _) _⟩⟩
                  · have q2z : ¬ ((HI : Int) < (x1.toNat : Int)) := by omega
                    by_cases q3 : x2.toNat < 128
                    · have q3z : (x2.toNat : Int) < 128 := by omega
                      go_quiet (fail)
                      go_wp2
                      go_meet
                      exact ⟨congrArg Value.bool (decide_eq_true (p := t.size < 3 ∨ x1.toNat < LO ∨ HI < x1.toNat ∨ x2.toNat < 128 ∨ 191 < x2.toNat) (by omega)).symm, ⟨pw_below_drewN (HBW.out.alloc HBW.out.size _) _⟩⟩
                    · have q3z : ¬ ((x2.toNat : Int) < 128) := by omega
                      by_cases q4 : 191 < x2.toNat
                      · have q4z : (191 : Int) < (x2.toNat : Int) := by omega
                        go_quiet (fail)
                        go_wp2
                        go_meet
                        exact ⟨congrArg Value.bool (decide_eq_true (p := t.size < 3 ∨ x1.toNat < LO ∨ HI < x1.toNat ∨ x2.toNat < 128 ∨ 191 < x2.toNat) (by omega)).symm, ⟨pw_below_drewN (HBW.out.alloc HBW.out.size _) _⟩⟩
                      · have q4z : ¬ ((191 : Int) < (x2.toNat : Int)) := by omega
                        go_quiet (fail)
                        go_wp2
                        go_meet
                        exact ⟨congrArg Value.bool (decide_eq_false (p := t.size < 3 ∨ x1.toNat < LO ∨ HI < x1.toNat ∨ x2.toNat < 128 ∨ 191 < x2.toNat) (by omega)).symm, ⟨pw_below_drewN (HBW.out.alloc HBW.out.size _) _⟩⟩
            case rest =>
              obtain ⟨rfl, HBC⟩ := hcut
              by_cases hb : t.size < 3 ∨ x1.toNat < LO ∨ HI < x1.toNat ∨ x2.toNat < 128 ∨ 191 < x2.toNat
              · have hbd : decide (t.size < 3 ∨ x1.toNat < LO ∨ HI < x1.toNat ∨ x2.toNat < 128 ∨ 191 < x2.toNat) = true := decide_eq_true hb
                have hl2 := HL2.out
                rw [if_pos hb] at hl2
                have HL3 := Lib.hid (show ANS = false from hl2)
                clear hl2
                go_wp2
                all_goals (go_ret; exact ⟨by rw [HL3.out]; rfl, HBC.out⟩)
              · have hbd : decide (t.size < 3 ∨ x1.toNat < LO ∨ HI < x1.toNat ∨ x2.toNat < 128 ∨ 191 < x2.toNat) = false := decide_eq_false hb
                have hl2 := HL2.out
                rw [if_neg hb] at hl2
                have HL3 := Lib.hid (show ANS = Lib.validD (List.drop 3 t.data.toList) from hl2)
                clear hl2
                obtain ⟨A9, k9, r9⟩ := cut_bytes w (some ad) t 3 (by omega) HRT.out
                have cut9 : ∀ W : World, (Instr.slice 22 (.slice (some ad) t.size t.size) (some (.int .i64 3)) none none).run Tryd.prog W = .ok (.slice A9 (t.extract 3 t.size).size (t.extract 3 t.size).size) W := k9
                have hz9 := Lib.ext_size t 3
                have hl9 := Lib.ext_list t 3
                generalize t.extract 3 t.size = t9 at *
                have R9 := Lib.hid r9
                have L9 := Lib.hid hl9
                have Z9 := Lib.hid hz9
                clear k9 r9 hl9 hz9
                go_wp2
                go_roundg g'
                case measure => omega
                case rel => exact ⟨HBC, A9, t9, rfl, ⟨R9.out⟩, ⟨by rw [L9.out]; exact HL3.out.symm⟩, ⟨by have := HG.out; have := Z9.out; omega⟩, ⟨by have := Z9.out; omega⟩⟩
        by_cases s4 : SZ = 4
        · as_aux_lemma =>
            subst s4
            have hSZz : (X : Int) % 8 = 4 := by omega
            have e2b : (((X : Int) % 8) == 2) = false := by simp; omega
            have e3b : (((X : Int) % 8) == 3) = false := by simp; omega
            have hSZb : (((X : Int) % 8) == 4) = true := by simp; omega
            have hlead := HL.out
            simp only [Lib.checkN, Nat.reduceEqDiff, if_true, if_false] at hlead
            have HL2 := Lib.hid hlead
            clear hlead HL
            go_upto_region 26 with fail
            go_cut [185] from 143 to 185 (fun c wx => c = .bool (decide (t.size < 4 ∨ x1.toNat < LO ∨ HI < x1.toNat ∨ x2.toNat < 128 ∨ 191 < x2.toNat ∨ x3.toNat < 128 ∨ 191 < x3.toNat)) ∧ Aside0 (Below w.heap.size w wx))
            case first =>
              by_cases q0 : t.size < 4
              · have q0z : (t.size : Int) < 4 := by omega
                go_quiet (fail)
                go_wp2
                go_meet
                exact ⟨congrArg Value.bool (decide_eq_true (p := t.size < 4 ∨ x1.toNat < LO ∨ HI < x1.toNat ∨ x2.toNat < 128 ∨ 191 < x2.toNat ∨ x3.toNat < 128 ∨ 191 < x3.toNat) (by omega)).symm, ⟨pw_below_drewN (HBW.out.alloc HBW.out.size _) _⟩⟩
              · have q0z : ¬ ((t.size : Int) < 4) := by omega
                have hz1 : (1 : Int) < (t.size : Int) := by omega
                have hp1 : 1 < t.size := by omega
                have hs1 := HB1.out hp1
                have hz2 : (2 : Int) < (t.size : Int) := by omega
                have hp2 : 2 < t.size := by omega
                have hs2 := HB2.out hp2
                have hz3 : (3 : Int) < (t.size : Int) := by omega
                have hp3 : 3 < t.size := by omega
                have hs3 := HB3.out hp3
                by_cases q1 : x1.toNat < LO
                · have q1z : (x1.toNat : Int) < (LO : Int) := by omega
                  go_quiet (fail)
                  go_wp2
                  go_meet
                  exact ⟨congrArg Value.bool (decide_eq_true (p := t.size < 4 ∨ x1.toNat < LO ∨ HI < x1.toNat ∨ x2.toNat < 128 ∨ 191 < x2.toNat ∨ x3.toNat < 128 ∨ 191 < x3.toNat) (by omega)).symm, ⟨pw_below_drewN (HBW.out.alloc HBW.out.size _) _⟩⟩
                · have q1z : ¬ ((x1.toNat : Int) < (LO : Int)) := by omega
                  by_cases q2 : HI < x1.toNat
                  · have q2z : (HI : Int) < (x1.toNat : Int) := by omega
                    go_quiet (fail)
                    go_wp2
                    go_meet
                    exact ⟨congrArg Value.bool (decide_eq_true (p := t.size < 4 ∨ x1.toNat < LO ∨ HI < x1.toNat ∨ x2.toNat < 128 ∨ 191 < x2.toNat ∨ x3.toNat < 128 ∨ 191 < x3.toNat) (by omega)).symm, ⟨pw_below_drewN (HBW.out.alloc HBW.out.size _) _⟩⟩
                  · have q2z : ¬ ((HI : Int) < (x1.toNat : Int)) := by omega
                    by_cases q3 : x2.toNat < 128
                    · have q3z : (x2.toNat : Int) < 128 := by omega
                      go_quiet (fail)
                      go_wp2
                      go_meet
                      exact ⟨congrArg Value.bool (decide_eq_true (p := t.size < 4 ∨ x1.toNat < LO ∨ HI < x1.toNat ∨ x2.toNat < 128 ∨ 191 < x2.toNat ∨ x3.toNat < 128 ∨ 191 < x3.toNat) (by omega)).symm, ⟨pw_below_drewN (HBW.out.alloc HBW.out.size _) _⟩⟩
                    · have q3z : ¬ ((x2.toNat : Int) < 128) := by omega
                      by_cases q4 : 191 < x2.toNat
                      · have q4z : (191 : Int) < (x2.toNat : Int) := by omega
                        go_quiet (fail)
                        go_wp2
                        go_meet
                        exact ⟨congrArg Value.bool (decide_eq_true (p := t.size < 4 ∨ x1.toNat < LO ∨ HI < x1.toNat ∨ x2.toNat < 128 ∨ 191 < x2.toNat ∨ x3.toNat < 128 ∨ 191 < x3.toNat) (by omega)).symm, ⟨pw_below_drewN (HBW.out.alloc HBW.out.size _) _⟩⟩
                      · have q4z : ¬ ((191 : Int) < (x2.toNat : Int)) := by omega
                        by_cases q5 : x3.toNat < 128
                        · have q5z : (x3.toNat : Int) < 128 := by omega
                          go_quiet (fail)
                          go_wp2
                          go_meet
                          exact ⟨congrArg Value.bool (decide_eq_true (p := t.size < 4 ∨ x1.toNat < LO ∨ HI < x1.toNat ∨ x2.toNat < 128 ∨ 191 < x2.toNat ∨ x3.toNat < 128 ∨ 191 < x3.toNat) (by omega)).symm, ⟨pw_below_drewN (HBW.out.alloc HBW.out.size _) _⟩⟩
                        · have q5z : ¬ ((x3.toNat : Int) < 128) := by omega
                          by_cases q6 : 191 < x3.toNat
                          · have q6z : (191 : Int) < (x3.toNat : Int) := by omega
                            go_quiet (fail)
                            go_wp2
                            go_meet
                            exact ⟨congrArg Value.bool (decide_eq_true (p := t.size < 4 ∨ x1.toNat < LO ∨ HI < x1.toNat ∨ x2.toNat < 128 ∨ 191 < x2.toNat ∨ x3.toNat < 128 ∨ 191 < x3.toNat) (by omega)).symm, ⟨pw_below_drewN (HBW.out.alloc HBW.out.size _) _⟩⟩
                          · have q6z : ¬ ((191 : Int) < (x3.toNat : Int)) := by omega
                            go_quiet (fail)
                            go_wp2
                            go_meet
                            exact ⟨congrArg Value.bool (decide_eq_false (p := t.size < 4 ∨ x1.toNat < LO ∨ HI < x1.toNat ∨ x2.toNat < 128 ∨ 191 < x2.toNat ∨ x3.toNat < 128 ∨ 191 < x3.toNat) (by omega)).symm, ⟨pw_below_drewN (HBW.out.alloc HBW.out.size _) _⟩⟩
            case rest =>
              obtain ⟨rfl, HBC⟩ := hcut
              by_cases hb : t.size < 4 ∨ x1.toNat < LO ∨ HI < x1.toNat ∨ x2.toNat < 128 ∨ 191 < x2.toNat ∨ x3.toNat < 128 ∨ 191 < x3.toNat
              · have hbd : decide (t.size < 4 ∨ x1.toNat < LO ∨ HI < x1.toNat ∨ x2.toNat < 128 ∨ 191 < x2.toNat ∨ x3.toNat < 128 ∨ 191 < x3.toNat) = true := decide_eq_true hb
                have hl2 := HL2.out
                rw [if_pos hb] at hl2
                have HL3 := Lib.hid (show ANS = false from hl2)
                clear hl2
                go_wp2
                all_goals (go_ret; exact ⟨by rw [HL3.out]; rfl, HBC.out⟩)
              · have hbd : decide (t.size < 4 ∨ x1.toNat < LO ∨ HI < x1.toNat ∨ x2.toNat < 128 ∨ 191 < x2.toNat ∨ x3.toNat < 128 ∨ 191 < x3.toNat) = false := decide_eq_false hb
                have hl2 := HL2.out
                rw [if_neg hb] at hl2
                have HL3 := Lib.hid (show ANS = Lib.validD (List.drop 4 t.data.toList) from hl2)
                clear hl2
                obtain ⟨A9, k9, r9⟩ := cut_bytes w (some ad) t 4 (by omega) HRT.out
                have cut9 : ∀ W : World, (Instr.slice 22 (.slice (some ad) t.size t.size) (some (.int .i64 4)) none none).run Tryd.prog W = .ok (.slice A9 (t.extract 4 t.size).size (t.extract 4 t.size).size) W := k9
                have hz9 := Lib.ext_size t 4
                have hl9 := Lib.ext_list t 4
                generalize t.extract 4 t.size = t9 at *
                have R9 := Lib.hid r9
                have L9 := Lib.hid hl9
                have Z9 := Lib.hid hz9
                clear k9 r9 hl9 hz9
                go_wp2
                go_roundg g'
                case measure => omega
                case rel => exact ⟨HBC, A9, t9, rfl, ⟨R9.out⟩, ⟨by rw [L9.out]; exact HL3.out.symm⟩, ⟨by have := HG.out; have := Z9.out; omega⟩, ⟨by have := Z9.out; omega⟩⟩
        have e2 : ¬ ((X : Int) % 8 = 2) := by omega
        have e3 : ¬ ((X : Int) % 8 = 3) := by omega
        have e4 : ¬ ((X : Int) % 8 = 4) := by omega
        have e2b : (((X : Int) % 8) == 2) = false := by simp; omega
        have e3b : (((X : Int) % 8) == 3) = false := by simp; omega
        have e4b : (((X : Int) % 8) == 4) = false := by simp; omega
        have hlead := HL.out
        simp only [Lib.checkN, s2, s3, s4, if_false] at hlead
        have HL2 := Lib.hid (show ANS = false from hlead)
        clear hlead HL
        go_wp2
        all_goals (go_ret; exact ⟨by rw [HL2.out]; rfl, HBW.out.alloc HBW.out.size _⟩)
    · have h0z : ¬ ((0 : Int) < (t.size : Int)) := by omega
      have ht0 : t.data.toList = [] := List.eq_nil_of_length_eq_zero (by rw [← Lib.size_eq]; omega)
      have hv := HV.out
      rw [ht0, Lib.validD_nil] at hv
      subst hv
      go_wp2
      go_ret
      exact ⟨rfl, HBW.out⟩
end Go.Proofs.YtpnghpmgdekmgaaDoor.Q

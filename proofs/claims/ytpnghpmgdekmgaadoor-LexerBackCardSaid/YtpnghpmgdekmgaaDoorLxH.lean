import Derived.Test.YtpnghpmgdekmgaaDoorLxF
namespace Go.Proofs.YtpnghpmgdekmgaaDoor.Q
open Go.RowKit Go.Proofs.YtpnghpmgdekmgaaDoorW.PrintWords Go.Proofs.YtpnghpmgdekmgaaDoorW.PrintLast Go.Proofs.YtpnghpmgdekmgaaDoorW.PrintMore
set_option linter.unusedVariables false
set_option linter.unusedSimpArgs false

theorem words_true (ws : List ByteArray) (h : ws.length ≤ 1000000) : ∃ k, murmurationref13_Words.f k ws ws = some true := by
  refine ⟨ws.length + 2, ?_⟩
  unfold murmurationref13_Words.f
  first
  | rw [if_pos rfl]; exact words_self ws h ws.length (ws.length + 2) 0 (by omega) (by omega)
  | rw [if_neg (by simp)]; exact words_self ws h ws.length (ws.length + 2) 0 (by omega) (by omega)
theorem drop_at (ws : List ByteArray) (i : Nat) (h : i < ws.length) : ∃ s rest, ws.drop i = s :: rest ∧ ws.drop (i + 1) = rest ∧ rdOf ByteArray.empty ws (i : Int) = s :=
  ⟨ws[i], ws.drop (i + 1), List.drop_eq_getElem_cons h, rfl, by unfold rdOf; simp [List.getD_eq_getElem?_getD, List.getElem?_eq_getElem h]⟩
theorem contW_some (rest : List ByteArray) (a : List Int) : contW rest (some a) = backGo rest (a ++ [34]) := rfl
theorem back_cons (s : ByteArray) (rest : List ByteArray) (acc : List Int) (h : ¬ 160 < s.size) : backGo (s :: rest) acc = contW rest (wordOut s (s.size + 1) 0 (acc ++ [32, 34])) := by
  simp only [backGo]
  rw [if_neg h]
  rfl
theorem word_step (rest : List ByteArray) (s : ByteArray) (k pos : Nat) (acc : List Int) (o : List Int) (h : pos < s.size) (ho : runeOut ((Utf8.decode s pos).1 : Int) = some o) : wordOut s (k + 1) pos acc = wordOut s k (pos + (Utf8.decode s pos).2) (acc ++ o) := by
  simp only [wordOut]
  rw [if_pos h, ho]
theorem word_end (s : ByteArray) (k pos : Nat) (acc : List Int) (h : ¬ pos < s.size) : wordOut s (k + 1) pos acc = some acc := by
  simp only [wordOut]
  rw [if_neg h]

set_option maxHeartbeats 16000000 in
set_option maxRecDepth 100000 in
theorem back_calls (A0 : Option Addr) (c0 : Nat) (ws : List ByteArray) (w : World) (hgl : Gl w) (hr0 : Kd.C Kd.string w A0 ws.length ws) (hc0 : ws.length ≤ c0) :
    Calls Tryd.prog 5 #[.slice A0 ws.length c0] w fun e w' => e = .returned (.bool true) ∧ Below w.heap.size w w' := by
  have HGL := Aside0.mk hgl
  have HR0 := Aside0.mk hr0
  have HC0 := Aside0.mk hc0
  clear hgl hr0 hc0
  have HB := Aside0.mk (Below.refl w.heap.size w)
  by_cases h0 : ws.length = 0
  · have z0 : ((ws.length : Int) == 0) = true := beq_iff_eq.mpr (by omega)
    have z1 : (ws.length == 0) = true := beq_iff_eq.mpr h0
    have HH := Lib.hid h0
    clear h0
    go_enter Tryd.func5, Tryd.ntmps5
    go_wp2_with (go_at_call 7; (with_reducible refine (known_calls _ ?ska).mono ?_); (case ska => exact Gl.below HGL.out (by repeat (first | (with_reducible first | exact HB.out | apply below_alloc | apply pw_below_drewN | apply below_drew1) | exact HB.out))); rintro e wka ⟨rfl, hb⟩; have HBk := Aside0.mk (below_step (by repeat (first | (with_reducible first | exact HB.out | apply below_alloc | apply pw_below_drewN | apply below_drew1) | exact HB.out)) hb); clear hb)
    go_ret
    exact ⟨rfl, HBk.out⟩
  have z0 : ((ws.length : Int) == 0) = false := beq_eq_false_iff_ne.mpr (by omega)
  have z1 : (ws.length == 0) = false := beq_eq_false_iff_ne.mpr h0
  by_cases h40 : 40 < ws.length
  · have y0 : decide ((40 : Int) < (ws.length : Int)) = true := decide_eq_true (by omega)
    have y1 : decide (40 < ws.length) = true := decide_eq_true h40
    have HH := Lib.hid h0
    clear h0
    have HH4 := Lib.hid h40
    clear h40
    go_enter Tryd.func5, Tryd.ntmps5
    go_wp2_with (go_at_call 7; (with_reducible refine (known_calls _ ?skb).mono ?_); (case skb => exact Gl.below HGL.out (by repeat (first | (with_reducible first | exact HB.out | apply below_alloc | apply pw_below_drewN | apply below_drew1) | exact HB.out))); rintro e wkb ⟨rfl, hb⟩; have HBk := Aside0.mk (below_step (by repeat (first | (with_reducible first | exact HB.out | apply below_alloc | apply pw_below_drewN | apply below_drew1) | exact HB.out)) hb); clear hb)
    go_ret
    exact ⟨rfl, HBk.out⟩
  have y0 : decide ((40 : Int) < (ws.length : Int)) = false := decide_eq_false (by omega)
  have y1 : decide (40 < ws.length) = false := decide_eq_false h40
  obtain ⟨R, hR⟩ : ∃ R, backGo ws [] = R := ⟨_, rfl⟩
  have HRR := Aside0.mk hR
  have HN := Aside0.mk (And.intro h0 h40)
  clear hR h0 h40
  have u5 := Tryd.underlying5
  have u21 := Tryd.underlying21
  have u9 := Tryd.underlying9
  go_enter Tryd.func5, Tryd.ntmps5
  go_wp2
  clear z0 z1 y0 y1
  go_loopg [3, 21] (ws.length + 1) (fun gk s3 s21 wr => ∃ (i : Nat) (acc : List Int), s21 = .int .i64 i ∧ Aside0 (backGo (ws.drop i) acc = R) ∧ Aside0 (ws.length < gk + i) ∧ Aside0 (i ≤ ws.length) ∧ Aside0 (acc.length ≤ 1000 * i) ∧ Aside0 (Kd.R (Kd.int .u8) 5 wr w.heap.size (fun _ => True) s3 acc) ∧ Aside0 (Below w.heap.size w wr))
  case atStart => exact ⟨0, [], rfl, ⟨by rw [List.drop_zero]; exact HRR.out⟩, ⟨by omega⟩, ⟨by omega⟩, ⟨by simp⟩, ⟨Kd.R_nil _ _ _ _ _⟩, ⟨HB.out⟩⟩
  case round =>
    clear HB
    obtain ⟨i, acc, rfl, HA, HF, HI, HL, HO, HB⟩ := hrel
    have hn40 : ws.length ≤ 40 := by have := HN.out; omega
    have hi40 : i ≤ 40 := by have := HI.out; omega
    cases gk with
    | zero => exact absurd HF.out (by have := HI.out; omega)
    | succ k1 =>
      by_cases hlt : i < ws.length
      · obtain ⟨s, rest, hd, hd1, hg⟩ := drop_at ws i hlt
        obtain ⟨ad, ea, hx0⟩ := Kd.at_string HR0.out (i : Int) (by omega) (by omega)
        rw [hg] at hx0
        subst ea
        have hx := (HB.out.cell (World.block_lt_of_cell? w _ hx0)).trans hx0
        have e1 : ((i : Int)).toNat = i := rfl
        rw [e1] at hx hx0
        clear e1 hg
        by_cases hs : 160 < s.size
        · have x0 : decide ((160 : Int) < (s.size : Int)) = true := decide_eq_true (by omega)
          have x1 : decide (160 < s.size) = true := decide_eq_true hs
          have HD := Aside0.mk (And.intro hd hd1)
          have HX0 := Aside0.mk hx0
          clear hd hd1 hs hx0
          go_wp2_with (go_at_call 7; (with_reducible refine (known_calls _ ?skc).mono ?_); (case skc => exact Gl.below HGL.out (by repeat (first | (with_reducible first | exact HB.out | apply below_alloc | apply pw_below_drewN | apply below_drew1) | exact HB.out))); rintro e wkc ⟨rfl, hb⟩; have HBk := Aside0.mk (below_step (by repeat (first | (with_reducible first | exact HB.out | apply below_alloc | apply pw_below_drewN | apply below_drew1) | exact HB.out)) hb); clear hb)
          go_ret
          exact ⟨rfl, HBk.out⟩
        · have HLT := Aside0.mk hlt
          have x0 : decide ((160 : Int) < (s.size : Int)) = false := decide_eq_false (by omega)
          have x1 : decide (160 < s.size) = false := decide_eq_false hs
          have hA := HA.out
          rw [hd, back_cons s rest acc hs] at hA
          have HD := Aside0.mk hd1
          have HX0 := Aside0.mk hx0
          have HS := Aside0.mk hs
          have HA2 := Aside0.mk hA
          clear hd hd1 hs hx0 hA HA
          have hl1 : acc.length ≤ 40000 := by have := HL.out; omega
          have HL1 := Aside0.mk hl1
          clear hl1
          go_wp2_with (at_builtin; refine print_append_str (w0 := w) w.heap.size rfl (.tmp 31) _ 22 9 5 rfl Tryd.underlying22 Tryd.underlying9 info5 u3 acc ⟨#[32, 34]⟩ rfl rfl ?zO1 ?zB1 ?zS1 ?zL1 ?_; (case zB1 => exact (by repeat (first | (with_reducible first | exact HB.out | apply below_alloc | apply pw_below_drewN | apply below_drew1) | exact HB.out))); (case zO1 => exact (Kd.own_of_R (by (with_reducible repeat (first | apply Kd.R_alloc | apply Kd.R_drewN | apply Kd.R_drew)); exact HO.out))); (case zS1 => exact (below_size (by repeat (first | (with_reducible first | exact HB.out | apply below_alloc | apply pw_below_drewN | apply below_drew1) | exact HB.out)))); (case zL1 => have := HL1.out; have hz_ : (⟨#[32, 34]⟩ : ByteArray).size = 2 := rfl; omega); intro v1 w1 ho0 hb hg; have HO1 := Aside0.mk (Kd.R_of_own (h1 := fun _ => rfl) (ok := fun _ => True) ho0 (fun _ _ => trivial)); have HG1 := Aside0.mk hg; have HB1 := Aside0.mk hb; clear ho0 hb hg; have hx1 := (HB1.out.cell (World.block_lt_of_cell? w _ HX0.out)).trans HX0.out)
          obtain ⟨wo, rfl⟩ : ∃ wo : World, wo = wr := ⟨_, rfl⟩
          have hK : w.heap.size ≤ w1.heap.size := below_size HB1.out
          have HKK := Aside0.mk hK
          clear hK
          have e32 : bytesOf (⟨#[32, 34]⟩ : ByteArray) = [32, 34] := by kernel_rfl
          have HO1b : Aside0 (Kd.R (Kd.int .u8) 5 w1 w.heap.size (fun _ => True) v1 (acc ++ [32, 34])) := ⟨by rw [← e32]; exact HO1.out⟩
          clear e32
          have HITER := Aside0.mk (World.iter_heap w1 s 0)
          go_loopg [3] (s.size + 1) (fun g2 s3 wx => ∃ (pos : Nat) (a2 : List Int), Aside0 (contW rest (wordOut s g2 pos a2) = R) ∧ Aside0 (s.size < g2 + pos) ∧ Aside0 (Wd w.heap.size w1.heap.size w wx s pos s3 a2 (1000 * i + 2)))
          case atStart => exact ⟨0, acc ++ [32, 34], HA2, ⟨by omega⟩, ⟨⟨Kd.R_alloc HO1b.out _, HITER.out, HB1.out.alloc HKK.out _, by have := HL.out; simp only [List.length_append, List.length_cons, List.length_nil]; omega, Nat.zero_le _⟩⟩⟩
          case round =>
            clear HO HB HA2 HITER HO1 HO1b HB1 HG1
            obtain ⟨pos, a2, HA3, HF2, HW⟩ := hrel
            cases gk with
            | zero => exact absurd HF2.out (by have := HW.out.pos; omega)
            | succ k2 =>
              have hW := HW.out
              have hLL : a2.length ≤ 1000 * i + 2 + 4 * pos ∧ i ≤ 40 ∧ pos ≤ 160 := ⟨hW.len, hi40, by have := hW.pos; have := HS.out; omega⟩
              have HLL := Aside0.mk hLL
              clear hLL
              by_cases hp : pos < s.size
              · have hnx := fun ty => Lib.run_next_any_at (P := Tryd.prog) wr w1.heap.size s pos ty hW.it hp
                have hst := fun k a o => word_step rest s k pos a o hp
                have hd1 := decode_pos s pos
                have hd2 := decode_fits s pos hp
                have hcr := decode_le s pos
                obtain ⟨c, hc⟩ : ∃ c : Int, ((Utf8.decode s pos).1 : Int) = c := ⟨_, rfl⟩
                obtain ⟨d, hd⟩ : ∃ d : Nat, (Utf8.decode s pos).2 = d := ⟨_, rfl⟩
                have hcc : 0 ≤ c ∧ c ≤ 2147483647 := by omega
                rw [hc] at hnx hst
                rw [hd] at hnx hst hd1 hd2
                have HDD := Aside0.mk (And.intro hd1 hd2)
                obtain ⟨hr', hit', hb'⟩ := hW.iterAt HKK.out (pos + d)
                clear hc hd hp hd1 hd2 hcr
                generalize hWW : wr.iterAt w1.heap.size s (pos + d) = W at *
                have HO := Aside0.mk hr'
                have HB := Aside0.mk hb'
                have HIT := Aside0.mk hit'
                clear hr' hit' hb' hWW hW
                by_cases e10 : c = 10
                · subst e10
                  have ho : runeOut 10 = some [92, 110] := rfl
                  have HA4 := Aside0.mk (show contW rest (wordOut s k2 (pos + d) (a2 ++ [92, 110])) = R from by rw [← hst _ _ _ ho]; exact HA3.out)
                  clear ho hst hcc
                  go_wp2_with (at_builtin; refine print_append_str (w0 := w) w.heap.size rfl (.tmp 48) _ 22 9 5 rfl Tryd.underlying22 Tryd.underlying9 info5 u3 a2 ⟨#[92, 110]⟩ rfl rfl ?zO2 ?zB2 ?zS2 ?zL2 ?_; (case zB2 => exact (by repeat (first | (with_reducible first | exact HB.out | apply below_alloc | apply pw_below_drewN | apply below_drew1) | exact HB.out))); (case zO2 => exact (Kd.own_of_R (by (with_reducible repeat (first | apply Kd.R_alloc | apply Kd.R_drewN | apply Kd.R_drew)); exact HO.out))); (case zS2 => exact (below_size (by repeat (first | (with_reducible first | exact HB.out | apply below_alloc | apply pw_below_drewN | apply below_drew1) | exact HB.out)))); (case zL2 => have := HLL.out; have hz_ : (⟨#[92, 110]⟩ : ByteArray).size = 2 := rfl; omega); intro v2 w2 ho0 hb hg; have HO2 := Aside0.mk (Kd.R_of_own (h1 := fun _ => rfl) (ok := fun _ => True) ho0 (fun _ _ => trivial)); have HG2 := Aside0.mk hg; have HB2 := Aside0.mk hb; clear ho0 hb hg)
                  have e92 : bytesOf (⟨#[92, 110]⟩ : ByteArray) = [92, 110] := by kernel_rfl
                  have HO2X : Aside0 (Kd.R (Kd.int .u8) 5 w2 w.heap.size (fun _ => True) v2 (a2 ++ [92, 110])) := ⟨by rw [← e92]; exact HO2.out⟩
                  clear e92
                  go_roundg k2
                  case measure => omega
                  case rel => exact ⟨pos + d, a2 ++ [92, 110], HA4, ⟨by have := HF2.out; have := HDD.out; omega⟩, ⟨⟨HO2X.out, grown_iter HO.out HG2.out HIT.out, HB2.out, by have := HLL.out; have := HDD.out; simp only [List.length_append, List.length_cons, List.length_nil]; omega, HDD.out.2⟩⟩⟩
                by_cases e34 : c = 34
                · subst e34
                  clear e10
                  have ho : runeOut 34 = some [92, 34] := rfl
                  have HA4 := Aside0.mk (show contW rest (wordOut s k2 (pos + d) (a2 ++ [92, 34])) = R from by rw [← hst _ _ _ ho]; exact HA3.out)
                  clear ho hst hcc
                  go_wp2_with (first | ((with_reducible refine gate_builtin (b := .append) (xs := #[.tmp 57, .tmp 58]) rfl ?_); (try (refine gate_guard (by rfl) ?_; dsimp only)); at_builtin; refine Kd.R_append (Kd.int .u8) (w0 := w) w.heap.size rfl (.tmp 57) (.tmp 58) 22 5 (.int .u8 0) 1 rfl Tryd.underlying22 info5 rfl (by decide) (by omega) u3 a2 (92) [.int .u8 (92)] (fun _ => True) (fun _ => False) rfl rfl ?yP3a (fun _ hk => hk.elim) ?yF3a ?yO3a ?yB3a ?yS3a ?yL3a ?_; (case yP3a => exact rfl); (case yB3a => exact (by repeat (first | (with_reducible first | exact HB.out | apply below_alloc | apply pw_below_drewN | apply below_drew1) | exact HB.out))); (case yF3a => exact (fun _ _ => trivial)); (case yO3a => exact (by (with_reducible repeat (first | apply Kd.R_alloc | apply Kd.R_drewN | apply Kd.R_drew)); exact HO.out)); (case yS3a => exact (below_size (by repeat (first | (with_reducible first | exact HB.out | apply below_alloc | apply pw_below_drewN | apply below_drew1) | exact HB.out)))); (case yL3a => have := HLL.out; (try simp only [List.length_append, List.length_cons, List.length_nil]); omega); intro v3a w3a ho hb hg hat; have HO3a := Aside0.mk ho; have HG3a := Aside0.mk hg; have HB3a := Aside0.mk hb; clear ho hb hg hat) | ((with_reducible refine gate_builtin (b := .append) (xs := #[.tmp 59, .tmp 62]) rfl ?_); (try (refine gate_guard (by rfl) ?_; dsimp only)); at_builtin; refine Kd.R_append (Kd.int .u8) (w0 := w) w.heap.size rfl (.tmp 59) (.tmp 62) 22 5 (.int .u8 0) 1 rfl Tryd.underlying22 info5 rfl (by decide) (by omega) v3a (a2 ++ [92]) (34) [.int .u8 (34)] (fun _ => True) (fun _ => False) rfl rfl ?yP3b (fun _ hk => hk.elim) ?yF3b ?yO3b ?yB3b ?yS3b ?yL3b ?_; (case yP3b => exact rfl); (case yB3b => exact (by repeat (first | (with_reducible first | exact HB3a.out | apply below_alloc | apply pw_below_drewN | apply below_drew1) | exact HB3a.out))); (case yF3b => exact (fun _ _ => trivial)); (case yO3b => exact (by (with_reducible repeat (first | apply Kd.R_alloc | apply Kd.R_drewN | apply Kd.R_drew)); exact HO3a.out)); (case yS3b => exact (below_size (by repeat (first | (with_reducible first | exact HB3a.out | apply below_alloc | apply pw_below_drewN | apply below_drew1) | exact HB3a.out)))); (case yL3b => have := HLL.out; (try simp only [List.length_append, List.length_cons, List.length_nil]); omega); intro v3b w3b ho hb hg hat; have HO3b := Aside0.mk ho; have HG3b := Aside0.mk hg; have HB3b := Aside0.mk hb; clear ho hb hg hat))
                  have HO3X : Aside0 (Kd.R (Kd.int .u8) 5 w3b w.heap.size (fun _ => True) v3b (a2 ++ [92, 34])) := ⟨by have h_ := HO3b.out; rw [List.append_assoc] at h_; exact h_⟩
                  go_roundg k2
                  case measure => omega
                  case rel => exact ⟨pos + d, a2 ++ [92, 34], HA4, ⟨by have := HF2.out; have := HDD.out; omega⟩, ⟨⟨HO3X.out, grown_iter HO3a.out HG3b.out (grown_iter HO.out HG3a.out HIT.out), HB3b.out, by have := HLL.out; have := HDD.out; simp only [List.length_append, List.length_cons, List.length_nil]; omega, HDD.out.2⟩⟩⟩
                by_cases e92 : c = 92
                · subst e92
                  clear e10 e34
                  have ho : runeOut 92 = some [92, 92] := rfl
                  have HA4 := Aside0.mk (show contW rest (wordOut s k2 (pos + d) (a2 ++ [92, 92])) = R from by rw [← hst _ _ _ ho]; exact HA3.out)
                  clear ho hst hcc
                  go_wp2_with (first | ((with_reducible refine gate_builtin (b := .append) (xs := #[.tmp 57, .tmp 58]) rfl ?_); (try (refine gate_guard (by rfl) ?_; dsimp only)); at_builtin; refine Kd.R_append (Kd.int .u8) (w0 := w) w.heap.size rfl (.tmp 57) (.tmp 58) 22 5 (.int .u8 0) 1 rfl Tryd.underlying22 info5 rfl (by decide) (by omega) u3 a2 (92) [.int .u8 (92)] (fun _ => True) (fun _ => False) rfl rfl ?yP4a (fun _ hk => hk.elim) ?yF4a ?yO4a ?yB4a ?yS4a ?yL4a ?_; (case yP4a => exact rfl); (case yB4a => exact (by repeat (first | (with_reducible first | exact HB.out | apply below_alloc | apply pw_below_drewN | apply below_drew1) | exact HB.out))); (case yF4a => exact (fun _ _ => trivial)); (case yO4a => exact (by (with_reducible repeat (first | apply Kd.R_alloc | apply Kd.R_drewN | apply Kd.R_drew)); exact HO.out)); (case yS4a => exact (below_size (by repeat (first | (with_reducible first | exact HB.out | apply below_alloc | apply pw_below_drewN | apply below_drew1) | exact HB.out)))); (case yL4a => have := HLL.out; (try simp only [List.length_append, List.length_cons, List.length_nil]); omega); intro v4a w4a ho hb hg hat; have HO4a := Aside0.mk ho; have HG4a := Aside0.mk hg; have HB4a := Aside0.mk hb; clear ho hb hg hat) | ((with_reducible refine gate_builtin (b := .append) (xs := #[.tmp 59, .tmp 62]) rfl ?_); (try (refine gate_guard (by rfl) ?_; dsimp only)); at_builtin; refine Kd.R_append (Kd.int .u8) (w0 := w) w.heap.size rfl (.tmp 59) (.tmp 62) 22 5 (.int .u8 0) 1 rfl Tryd.underlying22 info5 rfl (by decide) (by omega) v4a (a2 ++ [92]) (92) [.int .u8 (92)] (fun _ => True) (fun _ => False) rfl rfl ?yP4b (fun _ hk => hk.elim) ?yF4b ?yO4b ?yB4b ?yS4b ?yL4b ?_; (case yP4b => exact rfl); (case yB4b => exact (by repeat (first | (with_reducible first | exact HB4a.out | apply below_alloc | apply pw_below_drewN | apply below_drew1) | exact HB4a.out))); (case yF4b => exact (fun _ _ => trivial)); (case yO4b => exact (by (with_reducible repeat (first | apply Kd.R_alloc | apply Kd.R_drewN | apply Kd.R_drew)); exact HO4a.out)); (case yS4b => exact (below_size (by repeat (first | (with_reducible first | exact HB4a.out | apply below_alloc | apply pw_below_drewN | apply below_drew1) | exact HB4a.out)))); (case yL4b => have := HLL.out; (try simp only [List.length_append, List.length_cons, List.length_nil]); omega); intro v4b w4b ho hb hg hat; have HO4b := Aside0.mk ho; have HG4b := Aside0.mk hg; have HB4b := Aside0.mk hb; clear ho hb hg hat))
                  have HO4X : Aside0 (Kd.R (Kd.int .u8) 5 w4b w.heap.size (fun _ => True) v4b (a2 ++ [92, 92])) := ⟨by have h_ := HO4b.out; rw [List.append_assoc] at h_; exact h_⟩
                  go_roundg k2
                  case measure => omega
                  case rel => exact ⟨pos + d, a2 ++ [92, 92], HA4, ⟨by have := HF2.out; have := HDD.out; omega⟩, ⟨⟨HO4X.out, grown_iter HO4a.out HG4b.out (grown_iter HO.out HG4a.out HIT.out), HB4b.out, by have := HLL.out; have := HDD.out; simp only [List.length_append, List.length_cons, List.length_nil]; omega, HDD.out.2⟩⟩⟩
                by_cases elt : c < 32
                · have t10 : (c == 10) = false := beq_eq_false_iff_ne.mpr (by omega)
                  have t34 : (c == 34) = false := beq_eq_false_iff_ne.mpr (by omega)
                  have t92 : (c == 92) = false := beq_eq_false_iff_ne.mpr (by omega)
                  have tlt : decide (c < 32) = true := decide_eq_true (by omega)
                  clear e10 e34 e92 elt
                  have HCC := Aside0.mk hcc
                  clear hcc
                  clear hst
                  go_wp2_with (go_at_call 7; (with_reducible refine (known_calls _ ?skd).mono ?_); (case skd => exact Gl.below HGL.out (by repeat (first | (with_reducible first | exact HB.out | apply below_alloc | apply pw_below_drewN | apply below_drew1) | exact HB.out))); rintro e wkd ⟨rfl, hb⟩; have HBk := Aside0.mk (below_step (by repeat (first | (with_reducible first | exact HB.out | apply below_alloc | apply pw_below_drewN | apply below_drew1) | exact HB.out)) hb); clear hb)
                  go_ret
                  exact ⟨rfl, HBk.out⟩
                by_cases e127 : c = 127
                · have t10 : (c == 10) = false := beq_eq_false_iff_ne.mpr (by omega)
                  have t34 : (c == 34) = false := beq_eq_false_iff_ne.mpr (by omega)
                  have t92 : (c == 92) = false := beq_eq_false_iff_ne.mpr (by omega)
                  have t127 : (c == 127) = true := beq_iff_eq.mpr (by omega)
                  have tlt : decide (c < 32) = false := decide_eq_false (by omega)
                  clear e10 e34 e92 elt e127
                  have HCC := Aside0.mk hcc
                  clear hcc
                  clear hst
                  go_wp2_with (go_at_call 7; (with_reducible refine (known_calls _ ?ske).mono ?_); (case ske => exact Gl.below HGL.out (by repeat (first | (with_reducible first | exact HB.out | apply below_alloc | apply pw_below_drewN | apply below_drew1) | exact HB.out))); rintro e wke ⟨rfl, hb⟩; have HBk := Aside0.mk (below_step (by repeat (first | (with_reducible first | exact HB.out | apply below_alloc | apply pw_below_drewN | apply below_drew1) | exact HB.out)) hb); clear hb)
                  go_ret
                  exact ⟨rfl, HBk.out⟩
                by_cases ee : c = 65533
                · have t10 : (c == 10) = false := beq_eq_false_iff_ne.mpr (by omega)
                  have t34 : (c == 34) = false := beq_eq_false_iff_ne.mpr (by omega)
                  have t92 : (c == 92) = false := beq_eq_false_iff_ne.mpr (by omega)
                  have t127 : (c == 127) = false := beq_eq_false_iff_ne.mpr (by omega)
                  have t65533 : (c == 65533) = true := beq_iff_eq.mpr (by omega)
                  have tlt : decide (c < 32) = false := decide_eq_false (by omega)
                  clear e10 e34 e92 elt e127 ee
                  have HCC := Aside0.mk hcc
                  clear hcc
                  clear hst
                  go_wp2_with (go_at_call 7; (with_reducible refine (known_calls _ ?skf).mono ?_); (case skf => exact Gl.below HGL.out (by repeat (first | (with_reducible first | exact HB.out | apply below_alloc | apply pw_below_drewN | apply below_drew1) | exact HB.out))); rintro e wkf ⟨rfl, hb⟩; have HBk := Aside0.mk (below_step (by repeat (first | (with_reducible first | exact HB.out | apply below_alloc | apply pw_below_drewN | apply below_drew1) | exact HB.out)) hb); clear hb)
                  go_ret
                  exact ⟨rfl, HBk.out⟩
                have t10 : (c == 10) = false := beq_eq_false_iff_ne.mpr (by omega)
                have t34 : (c == 34) = false := beq_eq_false_iff_ne.mpr (by omega)
                have t92 : (c == 92) = false := beq_eq_false_iff_ne.mpr (by omega)
                have t127 : (c == 127) = false := beq_eq_false_iff_ne.mpr (by omega)
                have t65533 : (c == 65533) = false := beq_eq_false_iff_ne.mpr (by omega)
                have tlt : decide (c < 32) = false := decide_eq_false (by omega)
                have ho : runeOut c = some (Lib.encodeRuneZ c) := by
                  unfold runeOut
                  rw [if_neg e10, if_neg e34, if_neg e92, if_neg elt, if_neg e127, if_neg ee]
                have HA4 := Aside0.mk (show contW rest (wordOut s k2 (pos + d) (a2 ++ Lib.encodeRuneZ c)) = R from by rw [← hst _ _ _ ho]; exact HA3.out)
                have hz := (Lib.encodeRuneZ_length c).2
                have hzz : (bytesOf (Utf8.encode c)).length ≤ 4 := by rw [encZ]; exact hz
                rw [bytesOf_length] at hzz
                have HZZ := Aside0.mk (And.intro hz hzz)
                clear ho hst hz hzz e10 e34 e92 elt e127 ee
                have HCC := Aside0.mk hcc
                clear hcc
                go_wp2_with (at_builtin; refine print_append_str (w0 := w) w.heap.size rfl (.tmp 41) _ 22 9 5 rfl Tryd.underlying22 Tryd.underlying9 info5 u3 a2 (Utf8.encode c) rfl rfl ?zO5 ?zB5 ?zS5 ?zL5 ?_; (case zB5 => exact (by repeat (first | (with_reducible first | exact HB.out | apply below_alloc | apply pw_below_drewN | apply below_drew1) | exact HB.out))); (case zO5 => exact (Kd.own_of_R (by (with_reducible repeat (first | apply Kd.R_alloc | apply Kd.R_drewN | apply Kd.R_drew)); exact HO.out))); (case zS5 => exact (below_size (by repeat (first | (with_reducible first | exact HB.out | apply below_alloc | apply pw_below_drewN | apply below_drew1) | exact HB.out)))); (case zL5 => have := HLL.out; have := HZZ.out; omega); intro v5 w5 ho0 hb hg; have HO5 := Aside0.mk (Kd.R_of_own (h1 := fun _ => rfl) (ok := fun _ => True) ho0 (fun _ _ => trivial)); have HG5 := Aside0.mk hg; have HB5 := Aside0.mk hb; clear ho0 hb hg)
                have HO5X : Aside0 (Kd.R (Kd.int .u8) 5 w5 w.heap.size (fun _ => True) v5 (a2 ++ Lib.encodeRuneZ c)) := ⟨by rw [← encZ]; exact HO5.out⟩
                go_roundg k2
                case measure => omega
                case rel => exact ⟨pos + d, a2 ++ Lib.encodeRuneZ c, HA4, ⟨by have := HF2.out; have := HDD.out; omega⟩, ⟨⟨HO5X.out, grown_iter HO.out HG5.out HIT.out, HB5.out, by have := HLL.out; have := HDD.out; have := HZZ.out; simp only [List.length_append]; omega, HDD.out.2⟩⟩⟩
              · have hnx := fun ty => Lib.run_next_end_at (P := Tryd.prog) wr w1.heap.size s pos ty hW.it hp
                have hA := HA3.out
                rw [word_end s k2 pos a2 hp, contW_some] at hA
                have HA5 := Aside0.mk hA
                have HO := Aside0.mk hW.row
                have HB := Aside0.mk hW.bel
                clear hA hW hp
                go_wp2_with ((with_reducible refine gate_builtin (b := .append) (xs := #[.tmp 76, .tmp 77]) rfl ?_); (try (refine gate_guard (by rfl) ?_; dsimp only)); at_builtin; refine Kd.R_append (Kd.int .u8) (w0 := w) w.heap.size rfl (.tmp 76) (.tmp 77) 22 5 (.int .u8 0) 1 rfl Tryd.underlying22 info5 rfl (by decide) (by omega) u3 a2 (34) [.int .u8 (34)] (fun _ => True) (fun _ => False) rfl rfl ?yP6 (fun _ hk => hk.elim) ?yF6 ?yO6 ?yB6 ?yS6 ?yL6 ?_; (case yP6 => exact rfl); (case yB6 => exact (by repeat (first | (with_reducible first | exact HB.out | apply below_alloc | apply pw_below_drewN | apply below_drew1) | exact HB.out))); (case yF6 => exact (fun _ _ => trivial)); (case yO6 => exact (by (with_reducible repeat (first | apply Kd.R_alloc | apply Kd.R_drewN | apply Kd.R_drew)); exact HO.out)); (case yS6 => exact (below_size (by repeat (first | (with_reducible first | exact HB.out | apply below_alloc | apply pw_below_drewN | apply below_drew1) | exact HB.out)))); (case yL6 => have := HLL.out; (try simp only [List.length_append, List.length_cons, List.length_nil]); omega); intro v6 w6 ho hb hg hat; have HO6 := Aside0.mk ho; have HG6 := Aside0.mk hg; have HB6 := Aside0.mk hb; clear ho hb hg hat)
                go_roundg k1
                case measure => omega
                case rel => exact ⟨i + 1, a2 ++ [34], by go_num, ⟨by rw [HD.out]; exact HA5.out⟩, ⟨by have := HF.out; omega⟩, ⟨by have := HLT.out; omega⟩, ⟨by have := HLL.out; simp only [List.length_append, List.length_cons, List.length_nil]; omega⟩, ⟨HO6.out⟩, ⟨HB6.out⟩⟩
      · have hA := HA.out
        rw [List.drop_eq_nil_of_le (by omega)] at hA
        have hA2 : some acc = R := hA
        subst hA2
        have hne : ws ≠ [] := by intro e; rw [e] at HN; exact HN.out.1 rfl
        obtain ⟨hl1, hl2, hl3⟩ := back_lines ws acc hne (by have := HN.out; omega) HRR.out
        have A5 := Aside0.mk (show lexer_Lines.f acc = some ([⟨1, ws⟩], 0, 0) from by unfold lexer_Lines.f; rw [if_pos hl2, hl1])
        clear hl1 hl2 hA
        have HL3 := Aside0.mk hl3
        clear hl3 hne
        obtain ⟨kk, hk⟩ := words_true ws (by omega)
        have A6 := Aside0.mk hk
        clear hk
        obtain ⟨Ao, co, eo⟩ := Kd.R_slice HO.out
        subst eo
        go_wp2_with (first | (go_at_call 8; (with_reducible refine (lexer_Lines.calls _ _ acc [⟨1, ws⟩] 0 0 _ ?side3 ?side1 ?side2 A5.out).mono ?_); (case side1 => exact (Kd.R_reads' HO.out).2.2); (case side2 => exact (Kd.R_reads' HO.out).2.1); (case side3 => exact Gl.below HGL.out (by repeat (first | (with_reducible first | exact HB.out | apply below_alloc | apply pw_below_drewN | apply below_drew1) | exact HB.out))); rintro e w7 ⟨v7, rfl, hs7, hb⟩; have n0_ := Aside0.mk (below_step (by repeat (first | (with_reducible first | exact HB.out | apply below_alloc | apply pw_below_drewN | apply below_drew1) | exact HB.out)) hb); clear HB HO; have HB := n0_; clear n0_ hb; obtain ⟨A7, c7, rfl, hle, hC⟩ := Kd.R_reads (Kd.S_R hs7); obtain ⟨ad7, A8, c8, rfl, hx7, hy7, hz7, hr7⟩ := at_T32 hC 0 (Int.le_refl 0) (show (0 : Int) < ((1 : Nat) : Int) by decide); have e0 : ad7.add ((0 : Int).toNat * 2) = ad7 := Addr.add_zero' ad7; rw [e0] at hx7 hy7; change w7.cell? ad7 = some (.int .i64 1) at hx7; change w7.cell? ⟨ad7.block, ad7.off + 1, none⟩ = some (.slice A8 ws.length c8) at hy7; change ws.length ≤ c8 at hz7; change Kd.C Kd.string w7 A8 ws.length ws at hr7; have HR7 := Aside0.mk (And.intro hz7 hr7); clear e0 hz7 hr7 hC hle hs7) | (go_at_call 11; (with_reducible refine (murmurationref13_Words.calls kk _ _ ws _ _ ws true _ ?wide1 ?wide2 ?wide3 ?wide4 A6.out).mono ?_); (case wide1 => repeat (first | exact HR7.out.2 | (with_reducible refine Kd.C_alloc ?_ _) | (with_reducible refine Kd.C_drewN ?_ _) | (with_reducible refine Kd.C_drew ?_))); (case wide2 => exact HR7.out.1); (case wide3 => repeat (first | exact (Kd.C_below HR0.out HB.out) | (with_reducible refine Kd.C_alloc ?_ _) | (with_reducible refine Kd.C_drewN ?_ _) | (with_reducible refine Kd.C_drew ?_))); (case wide4 => exact HC0.out); rintro e w' ⟨rfl, ⟨nd, rfl⟩⟩) | (go_at_call 7; (with_reducible refine (known_calls _ ?skg).mono ?_); (case skg => exact Gl.below HGL.out (by repeat (first | (with_reducible first | exact HB.out | apply below_alloc | apply pw_below_drewN | apply below_drew1) | exact HB.out))); rintro e wkg ⟨rfl, hb⟩; have HBk := Aside0.mk (below_step (by repeat (first | (with_reducible first | exact HB.out | apply below_alloc | apply pw_below_drewN | apply below_drew1) | exact HB.out)) hb); clear hb))
        go_ret
        exact ⟨rfl, HBk.out⟩
end Go.Proofs.YtpnghpmgdekmgaaDoor.Q

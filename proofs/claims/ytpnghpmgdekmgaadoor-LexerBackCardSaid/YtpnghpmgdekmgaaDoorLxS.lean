import Derived.Test.YtpnghpmgdekmgaaDoorLxG
import Derived.Test.YtpnghpmgdekmgaaDoorLxP
import Derived.Test.YtpnghpmgdekmgaaDoorLxL
import Derived.Test.YtpnghpmgdekmgaaDoorLxX
import Derived.Lib.SlBytesConst
namespace Go.Proofs.YtpnghpmgdekmgaaDoor.Q
open Go.RowKit Go.Proofs.YtpnghpmgdekmgaaDoorW.PrintWords Go.Proofs.YtpnghpmgdekmgaaDoorW.PrintLast Go.Proofs.YtpnghpmgdekmgaaDoorW.PrintMore
set_option linter.unusedVariables false
set_option linter.unusedSimpArgs false

/-- The words of lines, from a line's number on. -/
def linesGo : Nat → List (List Int) → List S32 → List S32 × Int × Int
  | _, [], acc => (acc, 0, 0)
  | i, p :: ps, acc =>
    if (lineOf (strOfNums p)).2 = true ∧ Lib.validD (strOfNums p).data.toList = true then
      linesGo (i + 1) ps (if (lineOf (strOfNums p)).1 = [] then acc else acc ++ [⟨(i : Int) + 1, (lineOf (strOfNums p)).1⟩])
    else ([], (i : Int) + 1, 5)
def linesOf (l0 : List Int) : List S32 × Int × Int := if 20000 < l0.length then ([], 0, 3) else linesGo 0 (pieces l0) []
def lexer_Lines.f (l0 : List Int) : Option (List S32 × Int × Int) := if ∀ x ∈ l0, 0 ≤ x ∧ x < 256 then some (linesOf l0) else none

theorem bytesOf_strOfNums (xs : List Int) (h : ∀ x ∈ xs, 0 ≤ x ∧ x < 256) : bytesOf (strOfNums xs) = xs := by
  unfold bytesOf
  show (Lib.bytesOf xs).map _ = xs
  unfold Lib.bytesOf
  rw [List.map_map]
  conv => rhs; rw [← List.map_id xs]
  refine List.map_congr_left fun x hx => ?_
  have := h x hx
  have e : ∀ n : Fin 256, ((UInt8.ofNat n.val).toNat) = n.val := by decide +kernel
  have e' := e ⟨x.toNat, by omega⟩
  simp only [Function.comp_apply, id_eq] at *
  rw [e']
  omega
theorem pieces_mem : ∀ {xs : List Int} {p : List Int}, p ∈ pieces xs → p.length ≤ xs.length ∧ ∀ x ∈ p, x ∈ xs
  | [], p, h => by
    simp only [pieces, List.mem_singleton] at h
    subst h; simp
  | x :: xs, p, h => by
    simp only [pieces] at h
    split at h
    · rcases List.mem_cons.1 h with rfl | h
      · simp
      · obtain ⟨h1, h2⟩ := pieces_mem h
        exact ⟨by simp; omega, fun y hy => List.mem_cons_of_mem _ (h2 y hy)⟩
    · split at h
      · rename_i he; exact absurd he (pieces_ne xs)
      · rename_i q qs he
        rcases List.mem_cons.1 h with rfl | h
        · obtain ⟨h1, h2⟩ := pieces_mem (xs := xs) (p := q) (by rw [he]; simp)
          refine ⟨by simp; omega, fun y hy => ?_⟩
          rcases List.mem_cons.1 hy with rfl | hy
          · simp
          · exact List.mem_cons_of_mem _ (h2 y hy)
        · obtain ⟨h1, h2⟩ := pieces_mem (xs := xs) (p := p) (by rw [he]; exact List.mem_cons_of_mem _ h)
          exact ⟨by simp; omega, fun y hy => List.mem_cons_of_mem _ (h2 y hy)⟩

/-- What holds while the lines are read. -/
structure LinesRel (B : Nat) (w wr : World) (i : Nat) (v : Value) (acc : List S32) : Prop where
  own : Kd.S k32 32 wr B (fun _ => True) v acc
  len : acc.length ≤ i
  below : Below B w wr

theorem S_on {α : Type} {d : Kd α} {e base : Nat} {ok : Nat → Prop} {w w1 : World} {v : Value} {xs : List α} (h : Kd.S d e w base ok v xs) (hb : Below w.heap.size w w1) : Kd.S d e w1 base ok v xs := Kd.S_step h (fun k _ hk => hb.block k hk)
theorem R_on {α : Type} {d : Kd α} {e base : Nat} {ok : Nat → Prop} {w w1 : World} {v : Value} {xs : List α} (h : Kd.R d e w base ok v xs) (hb : Below w.heap.size w w1) : Kd.R d e w1 base ok v xs := Kd.R_step h (fun k _ hk => hb.block k hk)
theorem cell_first (w : World) (v : Value) (t : Nat) (m : Nat × Nat) : (w.alloc (Obj.cells #[v] t m)).cell? ⟨w.heap.size, 0, none⟩ = some v := by
  unfold World.cell?
  simp only
  rw [heap_alloc_new]
  rfl
set_option maxHeartbeats 8000000 in
set_option maxRecDepth 100000 in
theorem lines_calls (A0 : Option Addr) (c0 : Nat) (l0 : List Int) (w : World) (hgl : Gl w) (hr0 : ReadsInt w .u8 A0 l0.length l0) (hc0 : l0.length ≤ c0) (hb : ∀ x ∈ l0, 0 ≤ x ∧ x < 256) :
    Calls Tryd.prog 8 #[.slice A0 l0.length c0] w fun e w' => ∃ v0_ : Value, e = .returned (.tuple #[v0_, .int .i64 (linesOf l0).2.1, .int .i64 (linesOf l0).2.2]) ∧ Kd.S k32 32 w' w.heap.size (fun _ => True) v0_ (linesOf l0).1 ∧ Below w.heap.size w w' := by
  have hu := Tryd.underlying32
  by_cases hlong : 20000 < l0.length
  · have hR : linesOf l0 = ([], 0, 3) := by unfold linesOf; rw [if_pos hlong]
    rw [hR]
    have hlz : (20000 : Int) < (l0.length : Int) := by omega
    go_enter Tryd.func8, Tryd.ntmps8
    go_wp2
    go_ret3
    exact ⟨_, rfl, Kd.S_nil _ _ _ _ _, Below.refl _ _⟩
  · obtain ⟨R, hR⟩ : ∃ R, linesOf l0 = R := ⟨_, rfl⟩
    rw [hR]
    unfold linesOf at hR
    rw [if_neg hlong] at hR
    have HR := Lib.hid hR
    have hlz : ¬ ((20000 : Int) < (l0.length : Int)) := by omega
    have kc := fun (W : World) (C : Array Value) (n c : Nat) => Lib.run_convert_bytes_const (P := Tryd.prog) W 22 5 C n c Tryd.underlying22 Tryd.underlying5
    obtain ⟨w1, hw1⟩ : ∃ w1, w.alloc (Obj.cells #[Value.int IntKind.u8 10] 5 (1, 2)) = w1 := ⟨_, rfl⟩
    have hb1 : Below w.heap.size w w1 := by rw [← hw1]; exact (Below.refl _ _).alloc (Nat.le_refl _) _
    have hS := split_calls A0 c0 w.heap.size 0 1 l0 w1 (hr0.below hb1) hb hc0 (by omega) (by rw [← hw1]; exact cell_first w _ _ _)
    obtain ⟨N, hN⟩ : ∃ N, (pieces l0).length = N := ⟨_, rfl⟩
    have hNle := pieces_len_le l0
    rw [hN] at hS hNle
    have hN2 : N ≤ 20001 := by omega
    have HS := Lib.hid hS
    have HN := Lib.hid hN
    have HB1 := Lib.hid hb1
    have HG := Lib.hid hgl
    have HBY := Lib.hid hb
    clear hS hb1 hR hgl hr0 hb hN hNle
    go_enter Tryd.func8, Tryd.ntmps8
    go_wp2_with (first | (go_at_call 12; refine HS.out.mono ?_; rintro e w2 ⟨rfl, vs, hw2, hps⟩; have HPS := Lib.hid hps; have HW2 := Lib.hid hw2; clear hps hw2))
    clear kc
    have hg1 : w1.heap.size < w2.heap.size := by rw [HW2.out]; simp
    have hcells : ∀ (j : Nat) (v : Value), vs[j]? = some v → w2.cell? ⟨w1.heap.size, j, none⟩ = some v := fun j v hv => by
      rw [HW2.out]
      unfold World.cell?
      simp only
      rw [heap_alloc_new]
      simpa using hv
    have hb12 : Below w1.heap.size w1 w2 := by rw [HW2.out]; exact below_alloc (Below.refl _ _) _
    have hb2 : Below w.heap.size w w2 := below_step HB1.out hb12
    have HB2 := Lib.hid hb2
    have HG2 := Lib.hid (HG.out.below hb2)
    have HP2 := Lib.hid (fun j (hj : j < (pieces l0).length) => PsAt.get j HPS.out hj)
    have HCE := Lib.hid hcells
    have HB12 := Lib.hid hb12
    clear hcells hb12 hb2 HPS HW2 HB1 HG HS
    go_loopg [2, 17] (N + 1) (fun gk s2 s17 wr => ∃ (i : Nat) (acc : List S32), s17 = .int .i64 i ∧ Aside0 (linesGo i ((pieces l0).drop i) acc = R) ∧ Aside0 (LinesRel w2.heap.size w2 wr i s2 acc) ∧ Aside0 (N < gk + i) ∧ Aside0 (i ≤ N))
    case atStart => exact ⟨0, [], rfl, ⟨HR.out⟩, ⟨⟨Kd.S_nil _ _ _ _ _, by simp, Below.refl _ _⟩⟩, ⟨by omega⟩, ⟨by omega⟩⟩
    case round =>
      clear HR
      obtain ⟨i, acc, rfl, HA, HL, HF, HI⟩ := hrel
      have hiN := HI.out
      by_cases hi : i < N
      · have hiz : (i : Int) < (N : Int) := by omega
        obtain ⟨k1, rfl⟩ : ∃ k1, gk = k1 + 1 := ⟨gk - 1, by have := HF.out; omega⟩
        obtain ⟨v, p, hv, hp, hpa⟩ := HP2.out i (by rw [HN.out]; exact hi)
        have hdrop : (pieces l0).drop i = p :: (pieces l0).drop (i + 1) := by
          obtain ⟨hl, he⟩ := List.getElem?_eq_some_iff.1 hp
          rw [List.drop_eq_getElem_cons hl, he]
        have hmem := pieces_mem (List.mem_of_getElem? hp)
        have hpb : ∀ x ∈ p, 0 ≤ x ∧ x < 256 := fun x hx => HBY.out x (hmem.2 x hx)
        obtain ⟨hOwn, hLen, hBel⟩ := HL.out
        obtain ⟨A, c, rfl, hcp, hrd⟩ := (hpa.below HB12.out).below hBel
        obtain ⟨s, hs⟩ : ∃ s, strOfNums p = s := ⟨_, rfl⟩
        have hsz : s.size = p.length := by rw [← hs]; exact strOfNums_size p
        have hcv : (convert 22 9 (.slice A p.length c)).run Tryd.prog wr = .ok (.string s) wr := by rw [← hs]; exact Kd.C_string Tryd.underlying22 Tryd.underlying5 Tryd.underlying9 (Kd.C_of_reads (h1 := fun _ => rfl) (readsInt_of.1 hrd))
        have hps : bytesOf s = p := by rw [← hs]; exact bytesOf_strOfNums p hpb
        have hLl := hBel.size
        have hcell : wr.cell? ⟨w1.heap.size, i, none⟩ = some (.slice A p.length c) := pw_cell_below hBel (HCE.out i _ hv)
        have hA := HA.out
        rw [hdrop] at hA
        simp only [linesGo] at hA
        rw [hs] at hA
        rw [← hsz] at hcv hcell hrd hcp
        have hrd' : ReadsInt wr .u8 A s.size (bytesOf s) := by rw [hps]; exact hrd
        have hss : s.size ≤ 20000 := by rw [hsz]; have := hmem.1; omega
        have hline := line_calls s wr (by omega)
        obtain ⟨ws, hws⟩ : ∃ ws, (lineOf s).1 = ws := ⟨_, rfl⟩
        rw [hws] at hline hA
        have HLC := Lib.hid hline
        have HRD := Lib.hid hrd'
        have HCP := Lib.hid hcp
        have HA2 := Lib.hid hA
        have HGT := Lib.hid (HG2.out.below hBel)
        clear hline hrd hrd' hA HA hv hp hpa hdrop hmem hpb hsz hps hcp hs hws hOwn hLen hBel
        cases hok : (lineOf s).2 with
        | false =>
          rw [hok] at HLC HA2
          have hA := HA2.out
          rw [if_neg (fun h => by cases h.1)] at hA
          subst hA
          go_wp2_with (first | (go_at_call 13; refine HLC.out.mono ?_; rintro e w3 ⟨wv, rfl, hwv, hb3⟩; have HW3 := Lib.hid hwv; have HB3 := Lib.hid hb3; clear hwv hb3))
          go_ret3
          exact ⟨_, rfl, Kd.S_nil _ _ _ _ _, below_step (below_step HB2.out HL.out.below) HB3.out⟩
        | true =>
          rw [hok] at HLC HA2
          cases hvd : Lib.validD s.data.toList with
          | false =>
            rw [hvd] at HA2
            have HVD := Lib.hid hvd
            have hA := HA2.out
            rw [if_neg (fun h => by cases h.2)] at hA
            subst hA
            clear hvd
            go_wp2_with (first | (go_at_call 13; refine HLC.out.mono ?_; rintro e w3 ⟨wv, rfl, hwv, hb3⟩; have HW3 := Lib.hid hwv; have HB3 := Lib.hid hb3; clear hwv hb3) | (go_at_call 14; refine (valid_calls A c s w3 (HRD.out.below HB3.out) HCP.out (by omega) (HGT.out.below HB3.out).tabs).mono ?_; rintro e w4 ⟨he, hb4⟩; rw [HVD.out] at he; subst he; have HB4 := Lib.hid hb4; clear hb4))
            go_ret3
            exact ⟨_, rfl, Kd.S_nil _ _ _ _ _, below_step (below_step (below_step HB2.out HL.out.below) HB3.out) HB4.out⟩
          | true =>
            rw [hvd] at HA2
            have HVD := Lib.hid hvd
            have hA := HA2.out
            rw [if_pos ⟨rfl, rfl⟩] at hA
            clear hvd HA2
            by_cases hw0 : ws = []
            · subst hw0
              have HA3 := Lib.hid (show linesGo (i + 1) ((pieces l0).drop (i + 1)) acc = R from hA)
              clear hA
              go_wp2_with (first | (go_at_call 13; refine HLC.out.mono ?_; rintro e w3 ⟨wv, rfl, hwv, hb3⟩; have HW3 := Lib.hid hwv; have HB3 := Lib.hid hb3; clear hwv hb3; obtain ⟨Ao, co, eo⟩ := Kd.R_slice HW3.out; subst eo) | (go_at_call 14; refine (valid_calls A c s w3 (HRD.out.below HB3.out) HCP.out (by omega) (HGT.out.below HB3.out).tabs).mono ?_; rintro e w4 ⟨he, hb4⟩; rw [HVD.out] at he; subst he; have HB4 := Lib.hid hb4; clear hb4; have HO4 := Lib.hid (S_on (Kd.S_elder' HL.out.own (Kd.R_base HW3.out) HB3.out) HB4.out); have HW4 := Lib.hid (Kd.R_lower (R_on HW3.out HB4.out) HL.out.below.size); have HBA := Lib.hid (below_step (below_step HL.out.below HB3.out) HB4.out); clear HW3))
              go_roundg k1
              case measure => omega
              case rel => exact ⟨i + 1, acc, rfl, ⟨HA3.out⟩, ⟨⟨Kd.S_mono HO4.out (fun _ _ => trivial), by have := HL.out.len; omega, HBA.out⟩⟩, ⟨by have := HF.out; omega⟩, ⟨by omega⟩⟩
            · rw [if_neg hw0] at hA
              have HA3 := Lib.hid hA
              clear hA
              have hl2 : 0 < ws.length := List.length_pos_iff.2 hw0
              have hl1 : (0 : Int) < ((ws.length : Nat) : Int) := by omega
              clear hw0
              go_wp2_with (first | (go_at_call 13; refine HLC.out.mono ?_; rintro e w3 ⟨wv, rfl, hwv, hb3⟩; have HW3 := Lib.hid hwv; have HB3 := Lib.hid hb3; clear hwv hb3; obtain ⟨Ao, co, eo⟩ := Kd.R_slice HW3.out; subst eo) | (go_at_call 14; refine (valid_calls A c s w3 (HRD.out.below HB3.out) HCP.out (by omega) (HGT.out.below HB3.out).tabs).mono ?_; rintro e w4 ⟨he, hb4⟩; rw [HVD.out] at he; subst he; have HB4 := Lib.hid hb4; clear hb4; have HO4 := Lib.hid (S_on (Kd.S_elder' HL.out.own (Kd.R_base HW3.out) HB3.out) HB4.out); have HW4 := Lib.hid (Kd.R_lower (R_on HW3.out HB4.out) HL.out.below.size); have HBA := Lib.hid (below_step (below_step HL.out.below HB3.out) HB4.out); clear HW3) | ((with_reducible refine gate_builtin (b := .append) (xs := #[.tmp 40, .tmp 45]) rfl ?_); at_builtin; refine Kd.S_append k32 (w0 := w2) w2.heap.size rfl (.tmp 40) (.tmp 45) 24 32 (.agg #[(.int .i64 0), (.slice none 0 0)]) 32 rfl Tryd.underlying24 info32 rfl (by decide) (by omega) u2 acc (⟨(i : Int) + 1, ws⟩ : S32) [.int .i64 ((i : Int) + 1), .slice Ao ws.length co] (fun _ => True) (fun k_ => some k_ = (.slice Ao ws.length co : Value).ownBlock) rfl rfl ?aP (fun k_ hk_ => ((Kd.R_mono (ok' := fun k_ => ((fun _ => True)) k_ ∧ some k_ ≠ (u2 : Value).ownBlock) (Kd.R_apart' (HW4.out) (Kd.S_typed HO4.out) (by decide)) (fun k_ hk => ⟨trivial, hk.2⟩))).1 k_ hk_.symm) ?aF ?aO ?aB ?aS ?aL ?_; (case aP => exact k32_mkM _ _ _ (⟨(i : Int) + 1, ws⟩ : S32) (Kd.R_mono (Kd.R_tight rfl (Kd.R_mono (ok' := fun k_ => ((fun _ => True)) k_ ∧ some k_ ≠ (u2 : Value).ownBlock) (Kd.R_apart' (HW4.out) (Kd.S_typed HO4.out) (by decide)) (fun k_ hk => ⟨trivial, hk.2⟩))) (fun _ h_ => h_))); (case aB => exact HBA.out); (case aF => exact (fun _ _ => trivial)); (case aO => exact Kd.S_mono HO4.out (fun k_ hk => ⟨trivial, fun e_ => hk.2 e_⟩)); (case aS => exact HBA.out.size); (case aL => have := HL.out.len; omega); intro v5 w5 ho hb5 hg5 hat5; have HO5 := Lib.hid ho; have HB5 := Lib.hid hb5; clear ho hb5 hg5 hat5))
              go_roundg k1
              case measure => omega
              case rel => exact ⟨i + 1, _, rfl, ⟨HA3.out⟩, ⟨⟨HO5.out, by have := HL.out.len; simp; omega, HB5.out⟩⟩, ⟨by have := HF.out; omega⟩, ⟨by omega⟩⟩
      · have hiz : ¬ ((i : Int) < (N : Int)) := by omega
        have hA := HA.out
        rw [List.drop_eq_nil_of_le (by rw [HN.out]; omega)] at hA
        have hA' : R = (acc, 0, 0) := hA.symm
        subst hA'
        go_wp2
        go_ret3
        exact ⟨_, rfl, Kd.S_lower HL.out.own HB2.out.size, below_step HB2.out HL.out.below⟩
theorem lexer_Lines.calls (A0 : Option Addr) (c0 : Nat) (l0 : List Int) (r1 : List S32) (r2 r3 : Int) (w : World) (hgl : Gl w) (hr0 : Kd.C (Kd.int .u8) w A0 l0.length l0) (hc0 : l0.length ≤ c0) (h : lexer_Lines.f l0 = some (r1, r2, r3)) :
    Calls Tryd.prog 8 #[.slice A0 l0.length c0] w fun e w' => ∃ v0_ : Value, e = .returned (.tuple #[v0_, .int .i64 r2, .int .i64 r3]) ∧ Kd.S k32 32 w' w.heap.size (fun _ => True) v0_ r1 ∧ Below w.heap.size w w' := by
  unfold lexer_Lines.f at h
  split at h
  · rename_i hb
    have hR := Option.some.inj h
    have hc := lines_calls A0 c0 l0 w hgl (Kd.reads_of_C (enc := Value.int .u8) (d := (0 : Int)) (h1 := fun _ => rfl) hr0) hc0 hb
    rw [hR] at hc
    exact hc
  · cases h
end Go.Proofs.YtpnghpmgdekmgaaDoor.Q

import Derived.Test.YtpnghpmgdekmgaaDoorLxS
import Derived.Deep.QuietTactic
import Derived.BigQuiet
namespace Go.Proofs.YtpnghpmgdekmgaaDoor.Q
open Go.RowKit Go.Proofs.YtpnghpmgdekmgaaDoorW.PrintWords Go.Proofs.YtpnghpmgdekmgaaDoorW.PrintLast Go.Proofs.YtpnghpmgdekmgaaDoorW.PrintMore
set_option linter.unusedVariables false
set_option linter.unusedSimpArgs false

theorem lines_b1 : linesOf [10, 32, 115, 117, 98, 115, 116, 32, 97, 32, 34, 120, 32, 121, 34, 32, 34, 34, 32, 35, 32, 122, 10] = ([⟨2, [⟨#[115, 117, 98, 115, 116]⟩, ⟨#[97]⟩, ⟨#[120, 32, 121]⟩, ⟨#[]⟩]⟩], 0, 0) := by kernel_rfl
theorem lines_b2 : linesOf [97, 10, 97, 34, 98, 34] = ([], 2, 5) := by kernel_rfl
theorem lits_read (w : World) (xs : List Int) (t : Nat) (fz : Nat × Nat) (hl : xs.length ≤ 1000) : ReadsInt (w.alloc (Obj.cells ((xs.map (Value.int .u8)).toArray) t fz)) .u8 (some ⟨w.heap.size, 0, none⟩) xs.length xs := by
  refine ⟨rfl, by omega, fun _ => ⟨_, rfl, fun j hj => ?_⟩⟩
  rw [add_plain]
  unfold World.cell?
  simp only
  rw [heap_alloc_new]
  simp only [List.getElem?_toArray, List.getElem?_map, List.getD_eq_getElem?_getD, List.getElem?_eq_getElem hj, Option.map_some, Option.getD_some]
  rfl
theorem call_b1 (W : World) (hG : Gl W) (fz : Nat × Nat) : Calls Tryd.prog 8 #[.slice (some ⟨W.heap.size, 0, none⟩) 23 23] (W.alloc (Obj.cells #[.int .u8 10, .int .u8 32, .int .u8 115, .int .u8 117, .int .u8 98, .int .u8 115, .int .u8 116, .int .u8 32, .int .u8 97, .int .u8 32, .int .u8 34, .int .u8 120, .int .u8 32, .int .u8 121, .int .u8 34, .int .u8 32, .int .u8 34, .int .u8 34, .int .u8 32, .int .u8 35, .int .u8 32, .int .u8 122, .int .u8 10] 5 fz)) fun e w' => ∃ (ad a1 : Addr) (c c1 : Nat), e = .returned (.tuple #[.slice (some ad) 1 c, .int .i64 0, .int .i64 0]) ∧ w'.cell? ad = some (.int .i64 2) ∧ w'.cell? ⟨ad.block, ad.off + 1, none⟩ = some (.slice (some a1) 4 c1) ∧ w'.cell? ⟨a1.block, a1.off + 2, none⟩ = some (.string ⟨#[120, 32, 121]⟩) ∧ w'.cell? ⟨a1.block, a1.off + 3, none⟩ = some (.string ⟨#[]⟩) ∧ Below W.heap.size W w' := by
  have hc := lines_calls (some ⟨W.heap.size, 0, none⟩) 23 [10, 32, 115, 117, 98, 115, 116, 32, 97, 32, 34, 120, 32, 121, 34, 32, 34, 34, 32, 35, 32, 122, 10] (W.alloc (Obj.cells (([10, 32, 115, 117, 98, 115, 116, 32, 97, 32, 34, 120, 32, 121, 34, 32, 34, 34, 32, 35, 32, 122, 10] : List Int).map (Value.int .u8)).toArray 5 fz)) (hG.below (below_alloc (Below.refl _ _) _)) (lits_read W [10, 32, 115, 117, 98, 115, 116, 32, 97, 32, 34, 120, 32, 121, 34, 32, 34, 34, 32, 35, 32, 122, 10] 5 fz (by decide)) (by decide) (by decide)
  rw [lines_b1] at hc
  refine Calls.mono hc ?_
  rintro e w' ⟨v0, rfl, hs, hb⟩
  have hb2 : Below W.heap.size W w' := below_step (below_alloc (Below.refl _ _) _) hb
  obtain ⟨A, c, rfl, hle, hC⟩ := Kd.R_reads (Kd.S_R hs)
  obtain ⟨ad, A1, c1, rfl, h0, h1, h2, hr⟩ := at_T32 hC 0 (by decide) (by decide)
  have e0 : ad.add ((0 : Int).toNat * 2) = ad := Addr.add_zero' ad
  rw [e0] at h0 h1
  obtain ⟨ad2, e2, k2⟩ := Kd.at_string hr 2 (by decide) (by decide)
  obtain ⟨ad3, e3, k3⟩ := Kd.at_string hr 3 (by decide) (by decide)
  subst e2
  obtain rfl := Option.some.inj e3
  exact ⟨ad, ad2, c, c1, rfl, h0, h1, k2, k3, hb2⟩
theorem call_b2 (W : World) (hG : Gl W) (fz : Nat × Nat) : Calls Tryd.prog 8 #[.slice (some ⟨W.heap.size, 0, none⟩) 6 6] (W.alloc (Obj.cells #[.int .u8 97, .int .u8 10, .int .u8 97, .int .u8 34, .int .u8 98, .int .u8 34] 5 fz)) fun e w' => ∃ v0 : Value, e = .returned (.tuple #[v0, .int .i64 2, .int .i64 5]) ∧ Below W.heap.size W w' := by
  have hc := lines_calls (some ⟨W.heap.size, 0, none⟩) 6 [97, 10, 97, 34, 98, 34] (W.alloc (Obj.cells (([97, 10, 97, 34, 98, 34] : List Int).map (Value.int .u8)).toArray 5 fz)) (hG.below (below_alloc (Below.refl _ _) _)) (lits_read W [97, 10, 97, 34, 98, 34] 5 fz (by decide)) (by decide) (by decide)
  rw [lines_b2] at hc
  refine Calls.mono hc ?_
  rintro e w' ⟨v0, rfl, hs, hb⟩
  exact ⟨v0, rfl, below_step (below_alloc (Below.refl _ _) _) hb⟩

set_option maxHeartbeats 8000000 in
set_option maxRecDepth 100000 in
theorem known_calls (w : World) (hgl : Gl w) : Calls Tryd.prog 7 #[] w fun e w' => e = .returned (.bool true) ∧ Below w.heap.size w w' := by
  have kc := fun (W : World) (C : Array Value) (n c : Nat) => Lib.run_convert_bytes_const (P := Tryd.prog) W 22 5 C n c Tryd.underlying22 Tryd.underlying5
  have hu := Tryd.underlying32
  have HGL := Lib.hid hgl
  clear hgl
  go_enter Tryd.func7, Tryd.ntmps7
  go_upto_region 2 with (go_at_call 8; (with_reducible refine Calls.mono (call_b1 w HGL.out _) ?_); rintro e w1 ⟨ad, a1, c, c1, rfl, k0, k1, k2, k3, hb⟩; have HB1 := Lib.hid hb; clear hb)
  go_upto_region 3 with (go_at_call 8; (with_reducible refine Calls.mono (call_b2 w1 (HGL.out.below HB1.out) _) ?_); rintro e w2 ⟨v0, rfl, hb⟩; have HB2 := Lib.hid hb; replace k0 := pw_cell_below hb k0; replace k1 := pw_cell_below hb k1; replace k2 := pw_cell_below hb k2; replace k3 := pw_cell_below hb k3; clear hb)
  clear kc
  go_wp2
  go_ret
  exact ⟨rfl, below_step HB1.out HB2.out⟩
def murmurationlaw13_known.f : Option Bool := some true
theorem murmurationlaw13_known.calls (r : Bool) (w : World) (hgl : Gl w) (h : murmurationlaw13_known.f = some r) : Calls Tryd.prog 7 #[] w fun e w' => e = .returned (.bool r) ∧ Below w.heap.size w w' := by
  obtain rfl := Option.some.inj h
  exact known_calls w hgl
end Go.Proofs.YtpnghpmgdekmgaaDoor.Q

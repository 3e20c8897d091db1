import Derived.Test.YtpnghpmgdekmgaaDoorQ0
import Derived.Lib.ValidAsc
import Derived.Lib.SlBytesConst
import Derived.Lib.EndianBits
import Derived.Lib.Hide
import Derived.Outline
import Derived.Laws.BitsAllLaws
import Derived.Shelf.Unicode.DecodeSlow
import Derived.Deep.LoopGhost
import Derived.Deep.QuietTactic
import Derived.BigQuiet
import Derived.Deep.CutBlock
import Derived.Deep.DeepCutAuto
namespace Go.Proofs.YtpnghpmgdekmgaaDoor.Q
open Go.RowKit Go.Proofs.YtpnghpmgdekmgaaDoorW.PrintWords Go.Proofs.YtpnghpmgdekmgaaDoorW.PrintLast Go.Proofs.YtpnghpmgdekmgaaDoorW.PrintMore
set_option linter.unusedVariables false
set_option linter.unusedSimpArgs false

theorem rd_bytes (s : ByteArray) (i : Nat) (h : i < s.size) : rd (bytesOf s) (i : Int) = ((s.get! i).toNat : Int) := by
  rw [rd_bytesOf]
  unfold bt
  have h' : ((i : Int).toNat) < s.size := by omega
  rw [dif_pos h']
  have e : s.get! i = s[i]'h := Utf8W.get!_of_lt s i h
  rw [e]
  rfl
/-- A byte of a slice of bytes that is read. -/
theorem byte_at {w : World} {A : Option Addr} {s : ByteArray} (h : ReadsInt w .u8 A s.size (bytesOf s)) (i : Nat) (hi : i < s.size) : ∃ ad, A = some ad ∧ w.cell? (ad.add i) = some (.int .u8 ((s.get! i).toNat : Int)) := by
  obtain ⟨ad, e, hc⟩ := h.at_ (i : Int) (by omega) (by omega)
  exact ⟨ad, e, by rw [rd_bytes s i hi] at hc; simpa using hc⟩

set_option maxHeartbeats 8000000 in
set_option maxRecDepth 100000 in
theorem word_calls (A : Option Addr) (c : Nat) (s : ByteArray) (w : World) (hr : ReadsInt w .u8 A s.size (bytesOf s)) (hs : 8 ≤ s.size) :
    Calls Tryd.prog 19 #[.slice A s.size c] w fun e w' => e = .returned (.int .u64 (Lib.leNat [s.get! 0, s.get! 1, s.get! 2, s.get! 3, s.get! 4, s.get! 5, s.get! 6, s.get! 7])) ∧ ∃ q, w' = w.drewN q := by
  obtain ⟨ad, rfl, c0⟩ := byte_at hr 0 (by omega)
  rw [Addr.add_zero'] at c0
  have cc : ∀ i, i < s.size → w.cell? (ad.add i) = some (.int .u8 ((s.get! i).toNat : Int)) := fun i hi => by
    obtain ⟨ad', e, h⟩ := byte_at hr i hi
    obtain rfl := Option.some.inj e
    exact h
  have c1 : w.cell? ⟨ad.block, ad.off + 1, none⟩ = some (.int .u8 ((s.get! 1).toNat : Int)) := cc 1 (by omega)
  have c2 : w.cell? ⟨ad.block, ad.off + 2, none⟩ = some (.int .u8 ((s.get! 2).toNat : Int)) := cc 2 (by omega)
  have c3 : w.cell? ⟨ad.block, ad.off + 3, none⟩ = some (.int .u8 ((s.get! 3).toNat : Int)) := cc 3 (by omega)
  have c4 : w.cell? ⟨ad.block, ad.off + 4, none⟩ = some (.int .u8 ((s.get! 4).toNat : Int)) := cc 4 (by omega)
  have c5 : w.cell? ⟨ad.block, ad.off + 5, none⟩ = some (.int .u8 ((s.get! 5).toNat : Int)) := cc 5 (by omega)
  have c6 : w.cell? ⟨ad.block, ad.off + 6, none⟩ = some (.int .u8 ((s.get! 6).toNat : Int)) := cc 6 (by omega)
  have c7 : w.cell? ⟨ad.block, ad.off + 7, none⟩ = some (.int .u8 ((s.get! 7).toNat : Int)) := cc 7 (by omega)
  clear cc
  generalize s.get! 0 = x0 at *
  generalize s.get! 1 = x1 at *
  generalize s.get! 2 = x2 at *
  generalize s.get! 3 = x3 at *
  generalize s.get! 4 = x4 at *
  generalize s.get! 5 = x5 at *
  generalize s.get! 6 = x6 at *
  generalize s.get! 7 = x7 at *
  have h0 := x0.toNat_lt; have h1 := x1.toNat_lt; have h2 := x2.toNat_lt; have h3 := x3.toNat_lt; have h4 := x4.toNat_lt; have h5 := x5.toNat_lt; have h6 := x6.toNat_lt; have h7 := x7.toNat_lt
  have hv : ((Lib.leNat [x0, x1, x2, x3, x4, x5, x6, x7] : Nat) : Int) = (x0.toNat : Int) + (x1.toNat : Int) * 256 + (x2.toNat : Int) * 65536 + (x3.toNat : Int) * 16777216 + (x4.toNat : Int) * 4294967296 + (x5.toNat : Int) * 1099511627776 + (x6.toNat : Int) * 281474976710656 + (x7.toNat : Int) * 72057594037927936 := by
    simp only [Lib.leNat]
    push_cast
    omega
  have HV := Lib.hid hv
  have HH := Lib.hid (And.intro h0 (And.intro h1 (And.intro h2 (And.intro h3 (And.intro h4 (And.intro h5 (And.intro h6 h7)))))))
  have q1 : (1 : Int) < (s.size : Int) := by omega
  have q2 : (2 : Int) < (s.size : Int) := by omega
  have q3 : (3 : Int) < (s.size : Int) := by omega
  have q4 : (4 : Int) < (s.size : Int) := by omega
  have q5 : (5 : Int) < (s.size : Int) := by omega
  have q6 : (6 : Int) < (s.size : Int) := by omega
  have q7 : (7 : Int) < (s.size : Int) := by omega
  have q0 : (0 : Int) < (s.size : Int) := by omega
  have p0 : 0 < s.size := by omega
  have p1 : 1 < s.size := by omega
  have p2 : 2 < s.size := by omega
  have p3 : 3 < s.size := by omega
  have p4 : 4 < s.size := by omega
  have p5 : 5 < s.size := by omega
  have p6 : 6 < s.size := by omega
  have p7 : 7 < s.size := by omega
  clear hv hr
  go_enter Tryd.func19, Tryd.ntmps19
  go_wp2
  go_outline
  go_quiet (fail)
  go_wp2
  go_ret
  refine ⟨?_, _, rfl⟩
  obtain ⟨h0, h1, h2, h3, h4, h5, h6, h7⟩ := HH.out
  simp (disch := omega) only [u64_wrap_id, u64_or8, u64_or16, u64_or24, u64_or32, u64_or40, u64_or48, u64_or56]
  rw [HV.out]
  rfl
/-! ### Valid -/
theorem bytesOf_extract (s : ByteArray) (k : Nat) : bytesOf (s.extract k s.size) = (bytesOf s).drop k := by
  unfold bytesOf
  rw [Lib.ext_list, List.map_drop]
set_option maxRecDepth 100000 in
theorem and7b : ∀ X : Fin 256, bits .and .u8 ((X.val : Nat) : Int) 7 = ((X.val % 8 : Nat) : Int) := by decide
theorem info5v : (Tryd.prog.info? 5).map (fun i => (i.zero, i.size, i.bytes)) = some (some (.int .u8 0), 1, 1) := by kernel_rfl
/-- 't[k:]' of a slice of bytes whose capacity is its length. -/
theorem cut_bytes (w : World) (A : Option Addr) (t : ByteArray) (k : Nat) (hk : k ≤ t.size) (h : ReadsInt w .u8 A t.size (bytesOf t)) :
    ∃ A' : Option Addr, (∀ W : World, (Instr.slice 22 (.slice A t.size t.size) (some (.int .i64 (k : Int))) none none).run Tryd.prog W = .ok (.slice A' (t.extract k t.size).size (t.extract k t.size).size) W) ∧ ReadsInt w .u8 A' (t.extract k t.size).size (bytesOf (t.extract k t.size)) := by
  obtain ⟨i0, hi, hz0, hz1, hz2⟩ := info_parts info5v
  obtain ⟨A', hc, hr⟩ := print_cut (P := Tryd.prog) 22 5 .i64 Tryd.underlying22 hi hz1 A t.size t.size k hk
  refine ⟨A', ?_, ?_⟩
  · rw [Lib.ext_size]; exact hc
  · rw [bytesOf_extract, Lib.ext_size]; exact hr w .u8 _ (Nat.le_refl _) h
/-- The cells of the first bytes, as the walk asks for them. -/
theorem bytes_cells {w : World} {A : Option Addr} {t : ByteArray} (h : ReadsInt w .u8 A t.size (bytesOf t)) (h0 : 0 < t.size) : ∃ ad, A = some ad ∧ w.cell? ad = some (.int .u8 ((t.get! 0).toNat : Int)) ∧ ∀ i, i + 1 < t.size → ∀ o, (w.alloc o).cell? ⟨ad.block, ad.off + (i + 1), none⟩ = some (.int .u8 ((t.get! (i + 1)).toNat : Int)) := by
  obtain ⟨ad, rfl, c0⟩ := byte_at h 0 h0
  rw [Addr.add_zero'] at c0
  refine ⟨ad, rfl, c0, fun i hi o => ?_⟩
  obtain ⟨ad', e, hc⟩ := byte_at h (i + 1) hi
  obtain rfl := Option.some.inj e
  exact Lib.cell?_alloc_marked o hc

end Go.Proofs.YtpnghpmgdekmgaaDoor.Q

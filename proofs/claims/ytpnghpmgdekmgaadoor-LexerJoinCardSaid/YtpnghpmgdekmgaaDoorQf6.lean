-- WRITTEN BY A PROGRAM of this session (wip/tools/mp.py) over the kit's print.
import Derived.Test.YtpnghpmgdekmgaaDoorQ0
import Derived.Test.YtpnghpmgdekmgaaDoorQf10
import Derived.Test.YtpnghpmgdekmgaaDoorLxK
import Derived.Test.YtpnghpmgdekmgaaDoorLxS
import Derived.Test.YtpnghpmgdekmgaaDoorLxG
namespace Go.Proofs.YtpnghpmgdekmgaaDoor.Q
open Go.RowKit Go.Proofs.YtpnghpmgdekmgaaDoorW.PrintWords Go.Proofs.YtpnghpmgdekmgaaDoorW.PrintLast Go.Proofs.YtpnghpmgdekmgaaDoorW.PrintMore
attribute [local go_sem] max2_int min2_int max_two min_two max_three min_three max_four min_four   -- for this text's walks alone
set_option linter.unusedVariables false
set_option linter.unusedSimpArgs false

/-! ### murmurationlaw13_LexerJoin: function 6 -/
mutual
def murmurationlaw13_LexerJoin.j0 : Nat → List Int → List Int → Bool → Option (Bool)
  | 0, _, _, _ => none
  | k + 1, x0, x1, x24 => if x24 = true then ((murmurationlaw13_known.f).bind fun t217 => (some t217)) else ((lexer_Lines.f x0).bind fun bt218 => ((lexer_Lines.f x1).bind fun bt223 => ((some (([] : List Int) : List Int)).bind fun y228 => (if y228.length + x0.length < 140737488355328 then ((some (y228 ++ x0 : List Int)).bind fun y231 => (if y231.length < 140737488355328 then ((some (y231 ++ [10] : List Int)).bind fun y234 => (if y234.length + x1.length < 140737488355328 then ((lexer_Lines.f (y234 ++ x1)).bind fun bt240 => (murmurationlaw13_LexerJoin.l0 k x0 bt218.1 bt218.2.1 bt218.2.2 bt223.1 bt223.2.1 bt223.2.2 bt240.1 bt240.2.1 bt240.2.2 1 (x0.length : Int) 0)) else (none))) else (none))) else (none)))))
def murmurationlaw13_LexerJoin.l0 : Nat → List Int → List (S32) → Int → Int → List (S32) → Int → Int → List (S32) → Int → Int → Int → Int → Int → Option (Bool)
  | 0, _, _, _, _, _, _, _, _, _, _, _, _, _ => none
  | k + 1, x0, x5, x6, x7, x8, x9, x10, x11, x12, x13, x14, x51, x52 => if x52 < x51 then (if 0 ≤ x52 then (if x52 < (x0.length : Int) then (if (rd x0 x52) = 10 then (murmurationlaw13_LexerJoin.l0 k x0 x5 x6 x7 x8 x9 x10 x11 x12 x13 (wrap64 (x14 + 1)) x51 (wrap64 (x52 + 1))) else (murmurationlaw13_LexerJoin.l0 k x0 x5 x6 x7 x8 x9 x10 x11 x12 x13 x14 x51 (wrap64 (x52 + 1)))) else (none)) else (none)) else (if x7 = 0 then (if x10 = 0 then (if x13 = 0 then (if (x11.length : Int) = (wrap64 ((x5.length : Int) + (x8.length : Int))) then (murmurationlaw13_LexerJoin.l1 k x5 x8 x11 x14 (x8.length : Int) 0) else (some false)) else (some false)) else (if x13 = x10 then (if x12 = (wrap64 (x14 + x9)) then ((murmurationlaw13_known.f).bind fun t246 => (some t246)) else (some false)) else (some false))) else (if x13 = x7 then (if x12 = x6 then ((murmurationlaw13_known.f).bind fun t247 => (some t247)) else (some false)) else (some false)))
def murmurationlaw13_LexerJoin.l1 : Nat → List (S32) → List (S32) → List (S32) → Int → Int → Int → Option (Bool)
  | 0, _, _, _, _, _, _ => none
  | k + 1, x5, x8, x11, x14, x107, x108 => if x108 < x107 then (if 0 ≤ x108 then (if x108 < (x8.length : Int) then (murmurationlaw13_LexerJoin.l1 k x5 (x8.set (x108 : Int).toNat (⟨wrap64 (((rd_T32 x8 x108).f0) + x14), (rd_T32 x8 x108).f1⟩ : S32)) x11 x14 x107 (wrap64 (x108 + 1))) else (none)) else (none)) else (if x5.length + x8.length < 4398046511104 then ((murmurationref13_Same.f k x11 (x5 ++ x8)).bind fun t253 => (if t253 = true then ((murmurationlaw13_known.f).bind fun t254 => (some t254)) else (some false))) else (none))
end
def murmurationlaw13_LexerJoin.f (k : Nat) (l0 : List Int) (l1 : List Int) : Option (Bool) := if (l0.length : Int) > 3000 then (murmurationlaw13_LexerJoin.j0 k l0 l1 true) else (murmurationlaw13_LexerJoin.j0 k l0 l1 (decide ((l1.length : Int) > 3000)))
theorem murmurationlaw13_LexerJoin.mono_l : ∀ k, (∀ y0 y1 y2, LeO (murmurationlaw13_LexerJoin.j0 k y0 y1 y2) (murmurationlaw13_LexerJoin.j0 (k + 1) y0 y1 y2)) ∧ (∀ y0 y1 y2 y3 y4 y5 y6 y7 y8 y9 y10 y11 y12, LeO (murmurationlaw13_LexerJoin.l0 k y0 y1 y2 y3 y4 y5 y6 y7 y8 y9 y10 y11 y12) (murmurationlaw13_LexerJoin.l0 (k + 1) y0 y1 y2 y3 y4 y5 y6 y7 y8 y9 y10 y11 y12)) ∧ (∀ y0 y1 y2 y3 y4 y5, LeO (murmurationlaw13_LexerJoin.l1 k y0 y1 y2 y3 y4 y5) (murmurationlaw13_LexerJoin.l1 (k + 1) y0 y1 y2 y3 y4 y5))
  | 0 => ⟨fun _ _ _ r h => by simp [murmurationlaw13_LexerJoin.j0] at h, fun _ _ _ _ _ _ _ _ _ _ _ _ _ r h => by simp [murmurationlaw13_LexerJoin.l0] at h, fun _ _ _ _ _ _ r h => by simp [murmurationlaw13_LexerJoin.l1] at h⟩
  | k + 1 => by
    obtain ⟨ih0, ih1, ih2⟩ := murmurationlaw13_LexerJoin.mono_l k
    refine ⟨?_, ?_, ?_⟩
    · intro y0 y1 y2
      unfold murmurationlaw13_LexerJoin.j0
      repeat' first
      | (with_reducible exact ih0 _ _ _)
      | (with_reducible exact ih1 _ _ _ _ _ _ _ _ _ _ _ _ _)
      | (with_reducible exact ih2 _ _ _ _ _ _)
      | (with_reducible exact murmurationref13_Same.mono _ _ _)
      | (with_reducible exact LeO.refl _)
      | (with_reducible exact LeO.none _)
      | (with_reducible refine LeO.ite ?_ ?_)
      | (with_reducible refine LeO.bind ?_ (fun _ => ?_))
      | exact ih0 _ _ _
      | exact ih1 _ _ _ _ _ _ _ _ _ _ _ _ _
      | exact ih2 _ _ _ _ _ _
      | exact murmurationref13_Same.mono _ _ _
      | exact LeO.none _
      | refine LeO.ite ?_ ?_
      | refine LeO.bind ?_ (fun _ => ?_)
    · intro y0 y1 y2 y3 y4 y5 y6 y7 y8 y9 y10 y11 y12
      unfold murmurationlaw13_LexerJoin.l0
      repeat' first
      | (with_reducible exact ih0 _ _ _)
      | (with_reducible exact ih1 _ _ _ _ _ _ _ _ _ _ _ _ _)
      | (with_reducible exact ih2 _ _ _ _ _ _)
      | (with_reducible exact murmurationref13_Same.mono _ _ _)
      | (with_reducible exact LeO.refl _)
      | (with_reducible exact LeO.none _)
      | (with_reducible refine LeO.ite ?_ ?_)
      | (with_reducible refine LeO.bind ?_ (fun _ => ?_))
      | exact ih0 _ _ _
      | exact ih1 _ _ _ _ _ _ _ _ _ _ _ _ _
      | exact ih2 _ _ _ _ _ _
      | exact murmurationref13_Same.mono _ _ _
      | exact LeO.none _
      | refine LeO.ite ?_ ?_
      | refine LeO.bind ?_ (fun _ => ?_)
    · intro y0 y1 y2 y3 y4 y5
      unfold murmurationlaw13_LexerJoin.l1
      repeat' first
      | (with_reducible exact ih0 _ _ _)
      | (with_reducible exact ih1 _ _ _ _ _ _ _ _ _ _ _ _ _)
      | (with_reducible exact ih2 _ _ _ _ _ _)
      | (with_reducible exact murmurationref13_Same.mono _ _ _)
      | (with_reducible exact LeO.refl _)
      | (with_reducible exact LeO.none _)
      | (with_reducible refine LeO.ite ?_ ?_)
      | (with_reducible refine LeO.bind ?_ (fun _ => ?_))
      | exact ih0 _ _ _
      | exact ih1 _ _ _ _ _ _ _ _ _ _ _ _ _
      | exact ih2 _ _ _ _ _ _
      | exact murmurationref13_Same.mono _ _ _
      | exact LeO.none _
      | refine LeO.ite ?_ ?_
      | refine LeO.bind ?_ (fun _ => ?_)
theorem murmurationlaw13_LexerJoin.mono : ∀ a0 a1 k, LeO (murmurationlaw13_LexerJoin.f k a0 a1) (murmurationlaw13_LexerJoin.f (k + 1) a0 a1) := by
  intro a0 a1 k
  obtain ⟨ih0, ih1, ih2⟩ := murmurationlaw13_LexerJoin.mono_l k
  unfold murmurationlaw13_LexerJoin.f
  repeat' first
      | (with_reducible exact ih0 _ _ _)
      | (with_reducible exact ih1 _ _ _ _ _ _ _ _ _ _ _ _ _)
      | (with_reducible exact ih2 _ _ _ _ _ _)
      | (with_reducible exact murmurationref13_Same.mono _ _ _)
      | (with_reducible exact LeO.refl _)
      | (with_reducible exact LeO.none _)
      | (with_reducible refine LeO.ite ?_ ?_)
      | (with_reducible refine LeO.bind ?_ (fun _ => ?_))
      | exact ih0 _ _ _
      | exact ih1 _ _ _ _ _ _ _ _ _ _ _ _ _
      | exact ih2 _ _ _ _ _ _
      | exact murmurationref13_Same.mono _ _ _
      | exact LeO.none _
      | refine LeO.ite ?_ ?_
      | refine LeO.bind ?_ (fun _ => ?_)
set_option maxHeartbeats 8000000 in
set_option maxRecDepth 100000 in
theorem murmurationlaw13_LexerJoin.calls (k : Nat) (A0 : Option Addr) (c0 : Nat) (l0 : List Int) (A1 : Option Addr) (c1 : Nat) (l1 : List Int) (r : Bool) (w : World) (hgl : Gl w) (hr0 : Kd.C (Kd.int .u8) w A0 l0.length l0) (hc0 : l0.length ≤ c0) (hr1 : Kd.C (Kd.int .u8) w A1 l1.length l1) (hc1 : l1.length ≤ c1) (h : murmurationlaw13_LexerJoin.f k l0 l1 = some r) :
    Calls Tryd.prog 6 #[.slice A0 l0.length c0, .slice A1 l1.length c1] w fun e w' => e = .returned (.bool r) ∧ Below w.heap.size w w' := by
  have HGL := Aside0.mk hgl
  clear hgl
  have HR0 := Aside0.mk hr0
  have HC0 := Aside0.mk hc0
  clear hr0 hc0
  have HR1 := Aside0.mk hr1
  have HC1 := Aside0.mk hc1
  clear hr1 hc1
  have HB := Aside0.mk (Below.refl w.heap.size w)
  have H : (if (l0.length : Int) > 3000 then (murmurationlaw13_LexerJoin.j0 k l0 l1 true) else (murmurationlaw13_LexerJoin.j0 k l0 l1 (decide ((l1.length : Int) > 3000)))) = some r := h
  clear h
  have HC3 := Aside0.mk H
  clear H
  go_enter Tryd.func6, Tryd.ntmps6
  go_upto_region 1 with (fail)
  go_cut [24] (fun v24 wc => ∃ (kq : Nat) (x24_2 : Bool), v24 = .bool x24_2 ∧ Aside0 (murmurationlaw13_LexerJoin.j0 kq l0 l1 x24_2 = some r) ∧ Aside0 (kq ≤ k) ∧ Aside0 (Below w.heap.size w wc))
  case first =>
    have H := HC3.out
    clear HC3
    by_cases c4 : (l0.length : Int) > 3000
    · rw [if_pos c4] at H
      have c4b0 : decide (3000 < (l0.length : Int)) = true := decide_eq_true c4
      have c4b1 : decide (3000 < l0.length) = true := decide_eq_true (by omega)
      clear c4
      (first | rw [c4b0] | (simp only [i64_w, i32_w]; rw [c4b0]) | skip)
      have H' := Aside0.mk H
      clear H
      go_wp2
      go_meet
      case rel => exact ⟨_, (true), (by first | rfl | (simp; done) | (simp [*]; done)), H', ⟨by first | omega | exact Nat.le_refl _⟩, ⟨by repeat (first | (with_reducible first | exact HB.out | apply below_alloc | apply pw_below_drewN | apply below_drew1) | exact HB.out)⟩⟩
    · rw [if_neg c4] at H
      have c4b0 : decide (3000 < (l0.length : Int)) = false := decide_eq_false c4
      have c4b1 : decide (3000 < l0.length) = false := decide_eq_false (by omega)
      clear c4
      (first | rw [c4b0] | (simp only [i64_w, i32_w]; rw [c4b0]) | skip)
      have H' := Aside0.mk H
      clear H
      go_wp2
      go_meet
      case rel => exact ⟨_, (decide ((l1.length : Int) > 3000)), (by first | rfl | (simp; done) | (simp [*]; done)), H', ⟨by first | omega | exact Nat.le_refl _⟩, ⟨by repeat (first | (with_reducible first | exact HB.out | apply below_alloc | apply pw_below_drewN | apply below_drew1) | exact HB.out)⟩⟩
  case rest =>
    clear HC3
    try clear c1
    try clear p2
    try clear c4
    try clear c4b0
    try clear c4b1
    obtain ⟨kq, x24_2, rfl, HA, HJ2, HB⟩ := hcut
    cases kq with
    | zero => exact absurd HA.out (by simp [murmurationlaw13_LexerJoin.j0])
    | succ kj2 =>
      have H := HA.out
      clear HA
      simp only [murmurationlaw13_LexerJoin.j0] at H
      by_cases c5 : x24_2 = true
      · subst c5
        have H1 : ((murmurationlaw13_known.f).bind fun t217 => (some t217)) = some r := by rw [if_pos rfl] at H; exact H
        clear H
        have H := H1
        clear H1
        replace H := Option.bind_eq_some_iff.mp H
        obtain ⟨t217, A60, H⟩ := H
        replace H : (some t217) = some r := H
        have A6 := Aside0.mk A60
        clear A60
        obtain rfl := Option.some.inj H
        go_wp2_with (first | ((with_reducible refine gate_callee (f := 7) rfl ?_); refine goesL_ (some 25) rfl rfl Tryd.func7 (by kernel_rfl) rfl #[] rfl (by (try simp only [List.map_toArray, List.map_cons, List.map_nil]); first | done | rfl | (simp only [List.length_drop, List.length_take]; rfl)) ?_; (with_reducible refine (murmurationlaw13_known.calls  t217 _ ?side1 A6.out).mono ?_); (case side1 => exact Gl.below HGL.out (by repeat (first | (with_reducible first | exact HB.out | apply below_alloc | apply pw_below_drewN | apply below_drew1) | exact HB.out))); rintro e w7 ⟨rfl, hb⟩; refine ⟨_, rfl, ?_⟩; have n0_ := Aside0.mk (below_step (by repeat (first | (with_reducible first | exact HB.out | apply below_alloc | apply pw_below_drewN | apply below_drew1) | exact HB.out)) hb); clear HB; have HB := n0_; clear n0_; (try clear hb); (try clear hb2); (try clear hk); (try clear hi)))
        go_ret
        exact ⟨by first | rfl | (simp [errW_none, errW_some] <;> rfl) | (simp [*, errW_none, errW_some] <;> rfl), by repeat (first | (with_reducible first | exact HB.out | apply below_alloc | apply pw_below_drewN | apply below_drew1) | exact HB.out)⟩
      · replace c5 := Bool.eq_false_iff.mpr c5
        subst c5
        have H1 : ((lexer_Lines.f l0).bind fun bt218 => ((lexer_Lines.f l1).bind fun bt223 => ((some (([] : List Int) : List Int)).bind fun y228 => (if y228.length + l0.length < 140737488355328 then ((some (y228 ++ l0 : List Int)).bind fun y231 => (if y231.length < 140737488355328 then ((some (y231 ++ [10] : List Int)).bind fun y234 => (if y234.length + l1.length < 140737488355328 then ((lexer_Lines.f (y234 ++ l1)).bind fun bt240 => (murmurationlaw13_LexerJoin.l0 kj2 l0 bt218.1 bt218.2.1 bt218.2.2 bt223.1 bt223.2.1 bt223.2.2 bt240.1 bt240.2.1 bt240.2.2 1 (l0.length : Int) 0)) else (none))) else (none))) else (none))))) = some r := by rw [if_neg (show ¬ (false = true) by decide)] at H; exact H
        clear H
        have H := H1
        clear H1
        replace H := Option.bind_eq_some_iff.mp H
        obtain ⟨⟨t218, t219, t220⟩, A80, H⟩ := H
        replace H : ((lexer_Lines.f l1).bind fun bt223 => ((some (([] : List Int) : List Int)).bind fun y228 => (if y228.length + l0.length < 140737488355328 then ((some (y228 ++ l0 : List Int)).bind fun y231 => (if y231.length < 140737488355328 then ((some (y231 ++ [10] : List Int)).bind fun y234 => (if y234.length + l1.length < 140737488355328 then ((lexer_Lines.f (y234 ++ l1)).bind fun bt240 => (murmurationlaw13_LexerJoin.l0 kj2 l0 t218 t219 t220 bt223.1 bt223.2.1 bt223.2.2 bt240.1 bt240.2.1 bt240.2.2 1 (l0.length : Int) 0)) else (none))) else (none))) else (none)))) = some r := H
        have A8 := Aside0.mk A80
        clear A80
        replace H := Option.bind_eq_some_iff.mp H
        obtain ⟨⟨t223, t224, t225⟩, A90, H⟩ := H
        replace H : ((some (([] : List Int) : List Int)).bind fun y228 => (if y228.length + l0.length < 140737488355328 then ((some (y228 ++ l0 : List Int)).bind fun y231 => (if y231.length < 140737488355328 then ((some (y231 ++ [10] : List Int)).bind fun y234 => (if y234.length + l1.length < 140737488355328 then ((lexer_Lines.f (y234 ++ l1)).bind fun bt240 => (murmurationlaw13_LexerJoin.l0 kj2 l0 t218 t219 t220 t223 t224 t225 bt240.1 bt240.2.1 bt240.2.2 1 (l0.length : Int) 0)) else (none))) else (none))) else (none))) = some r := H
        have A9 := Aside0.mk A90
        clear A90
        obtain ⟨y228, hy228⟩ : ∃ y_ : List Int, y_ = (([] : List Int)) := ⟨_, rfl⟩
        replace H : (if y228.length + l0.length < 140737488355328 then ((some (y228 ++ l0 : List Int)).bind fun y231 => (if y231.length < 140737488355328 then ((some (y231 ++ [10] : List Int)).bind fun y234 => (if y234.length + l1.length < 140737488355328 then ((lexer_Lines.f (y234 ++ l1)).bind fun bt240 => (murmurationlaw13_LexerJoin.l0 kj2 l0 t218 t219 t220 t223 t224 t225 bt240.1 bt240.2.1 bt240.2.2 1 (l0.length : Int) 0)) else (none))) else (none))) else (none)) = some r := by first | (rw [hy228]; with_reducible exact H) | (have H2_ := (Option.bind_some _ _).symm.trans H; rw [hy228]; with_reducible exact H2_) | (have H2_ := (Option.bind_some _ _).symm.trans H; with_reducible exact H2_) | with_reducible exact H | (rw [hy228]; exact H) | exact H
        have Ny228 := Aside0.mk hy228
        clear hy228
        by_cases c10 : y228.length + l0.length < 140737488355328
        · rw [if_pos c10] at H
          have LMc10 := Aside0.mk c10
          clear c10
          obtain ⟨y231, hy231⟩ : ∃ y_ : List Int, y_ = (y228 ++ l0) := ⟨_, rfl⟩
          replace H : (if y231.length < 140737488355328 then ((some (y231 ++ [10] : List Int)).bind fun y234 => (if y234.length + l1.length < 140737488355328 then ((lexer_Lines.f (y234 ++ l1)).bind fun bt240 => (murmurationlaw13_LexerJoin.l0 kj2 l0 t218 t219 t220 t223 t224 t225 bt240.1 bt240.2.1 bt240.2.2 1 (l0.length : Int) 0)) else (none))) else (none)) = some r := by first | (rw [hy231]; with_reducible exact H) | (have H2_ := (Option.bind_some _ _).symm.trans H; rw [hy231]; with_reducible exact H2_) | (have H2_ := (Option.bind_some _ _).symm.trans H; with_reducible exact H2_) | with_reducible exact H | (rw [hy231]; exact H) | exact H
          have Ny231 := Aside0.mk hy231
          clear hy231
          by_cases c11 : y231.length < 140737488355328
          · rw [if_pos c11] at H
            have LMc11 := Aside0.mk c11
            clear c11
            obtain ⟨y234, hy234⟩ : ∃ y_ : List Int, y_ = (y231 ++ [10]) := ⟨_, rfl⟩
            replace H : (if y234.length + l1.length < 140737488355328 then ((lexer_Lines.f (y234 ++ l1)).bind fun bt240 => (murmurationlaw13_LexerJoin.l0 kj2 l0 t218 t219 t220 t223 t224 t225 bt240.1 bt240.2.1 bt240.2.2 1 (l0.length : Int) 0)) else (none)) = some r := by first | (rw [hy234]; with_reducible exact H) | (have H2_ := (Option.bind_some _ _).symm.trans H; rw [hy234]; with_reducible exact H2_) | (have H2_ := (Option.bind_some _ _).symm.trans H; with_reducible exact H2_) | with_reducible exact H | (rw [hy234]; exact H) | exact H
            have Ny234 := Aside0.mk hy234
            clear hy234
            by_cases c12 : y234.length + l1.length < 140737488355328
            · rw [if_pos c12] at H
              have LMc12 := Aside0.mk c12
              clear c12
              obtain ⟨y237, hy237⟩ : ∃ y_ : List Int, y_ = (y234 ++ l1) := ⟨_, rfl⟩
              replace H : ((lexer_Lines.f y237).bind fun bt240 => (murmurationlaw13_LexerJoin.l0 kj2 l0 t218 t219 t220 t223 t224 t225 bt240.1 bt240.2.1 bt240.2.2 1 (l0.length : Int) 0)) = some r := by first | (rw [hy237]; with_reducible exact H) | (have H2_ := (Option.bind_some _ _).symm.trans H; rw [hy237]; with_reducible exact H2_) | (have H2_ := (Option.bind_some _ _).symm.trans H; with_reducible exact H2_) | with_reducible exact H | (rw [hy237]; exact H) | exact H
              have Ny237 := Aside0.mk hy237
              clear hy237
              replace H := Option.bind_eq_some_iff.mp H
              obtain ⟨⟨t240, t241, t242⟩, A130, H⟩ := H
              replace H : (murmurationlaw13_LexerJoin.l0 kj2 l0 t218 t219 t220 t223 t224 t225 t240 t241 t242 1 (l0.length : Int) 0) = some r := H
              have A13 := Aside0.mk A130
              clear A130
              have H' := Aside0.mk H
              clear H
              go_wp2_with (first | ((with_reducible refine gate_callee (f := 8) rfl ?_); refine goesL_ (some 28) rfl rfl Tryd.func8 (by kernel_rfl) rfl #[.slice A0 l0.length c0] rfl (by (try simp only [List.map_toArray, List.map_cons, List.map_nil]); first | done | rfl | (simp only [List.length_drop, List.length_take]; rfl)) ?_; (with_reducible refine (lexer_Lines.calls _ _ l0 t218 t219 t220 _ ?side3 ?side1 ?side2 A8.out).mono ?_); (case side1 => repeat (first | exact (Kd.C_below HR0.out HB.out) | (with_reducible refine Kd.C_alloc ?_ _) | (with_reducible refine Kd.C_drewN ?_ _) | (with_reducible refine Kd.C_drew ?_))); (case side2 => exact HC0.out); (case side3 => exact Gl.below HGL.out (by repeat (first | (with_reducible first | exact HB.out | apply below_alloc | apply pw_below_drewN | apply below_drew1) | exact HB.out))); rintro e w14 ⟨v221, rfl, ho0, hb⟩; refine ⟨_, rfl, ?_⟩; have n0_ := Aside0.mk (Kd.N_lower (Kd.N_mono (ok' := fun k_ => True) (Kd.S_N (Kd.S_bound ho0)) (fun k_ hk_ => trivial)) (below_size (by repeat (first | (with_reducible first | exact HB.out | apply below_alloc | apply pw_below_drewN | apply below_drew1) | exact HB.out)))); have n1_ := Aside0.mk (below_step (by repeat (first | (with_reducible first | exact HB.out | apply below_alloc | apply pw_below_drewN | apply below_drew1) | exact HB.out)) hb); clear HB; have HO222 := n0_; have HB := n1_; clear n0_ n1_; (try clear hb); (try clear hb2); (try clear hk); (try clear hi); (try clear ho0)) | ((with_reducible refine gate_callee (f := 8) rfl ?_); refine goesL_ (some 34) rfl rfl Tryd.func8 (by kernel_rfl) rfl #[.slice A1 l1.length c1] rfl (by (try simp only [List.map_toArray, List.map_cons, List.map_nil]); first | done | rfl | (simp only [List.length_drop, List.length_take]; rfl)) ?_; (with_reducible refine (lexer_Lines.calls _ _ l1 t223 t224 t225 _ ?side3 ?side1 ?side2 A9.out).mono ?_); (case side1 => repeat (first | exact (Kd.C_below HR1.out HB.out) | (with_reducible refine Kd.C_alloc ?_ _) | (with_reducible refine Kd.C_drewN ?_ _) | (with_reducible refine Kd.C_drew ?_))); (case side2 => exact HC1.out); (case side3 => exact Gl.below HGL.out (by repeat (first | (with_reducible first | exact HB.out | apply below_alloc | apply pw_below_drewN | apply below_drew1) | exact HB.out))); rintro e w15 ⟨v226, rfl, ho0, hb⟩; refine ⟨_, rfl, ?_⟩; have n0_ := Aside0.mk (Kd.N_elder' (by (with_reducible repeat (first | apply Kd.N_alloc | apply Kd.N_drewN | apply Kd.N_drew)); exact HO222.out) (by first | exact Kd.N_base ho0 | exact Kd.S_base ho0) hb); have n1_ := Aside0.mk (Kd.N_lower (Kd.N_mono (ok' := fun k_ => some k_ ≠ (v221 : Value).ownBlock) (Kd.S_N (Kd.S_bound ho0)) (fun k_ hk_ => (Kd.fresh' (Kd.N_lt (by (with_reducible repeat (first | apply Kd.N_alloc | apply Kd.N_drewN | apply Kd.N_drew)); exact HO222.out)) k_ hk_.2.1))) (below_size (by repeat (first | (with_reducible first | exact HB.out | apply below_alloc | apply pw_below_drewN | apply below_drew1) | exact HB.out)))); have n2_ := Aside0.mk (below_step (by repeat (first | (with_reducible first | exact HB.out | apply below_alloc | apply pw_below_drewN | apply below_drew1) | exact HB.out)) hb); clear HO222; clear HB; have HO222 := n0_; have HO227 := n1_; have HB := n2_; clear n0_ n1_ n2_; (try clear hb); (try clear hb2); (try clear hk); (try clear hi); (try clear ho0)) | ((with_reducible refine gate_dst (N := 39) rfl ?_); (try (refine gate_guard (by rfl) ?_; dsimp only)); refine Kd.R_lit (Kd.int .u8) _ 5 ?hg (N := 39) ?hd (xs := ([] : List Int)) (inner := []) (ok := fun _ => True) (okp := fun _ => True) ?hr ?hp (fun _ hk => hk) trivial (Below.refl _ _) (Nat.le_refl _) (by simp) ?_; (case hd => rfl); (case hg => rfl); (case hr => first | (go_simp; done) | (go_simp; rfl)); (case hp => exact (Reps.none _ _)); intro v229 w16 ho17 hb hg_ hnew_; clear hg_ hnew_; (first | rw [← Ny228.out] at ho17 | (simp only [Int.reduceToNat] at ho17; rw [← Ny228.out] at ho17)); have n0_ := Aside0.mk (Kd.N_elder' (by (with_reducible repeat (first | apply Kd.N_alloc | apply Kd.N_drewN | apply Kd.N_drew)); exact HO222.out) (Kd.R_base ho17) hb); have n1_ := Aside0.mk (Kd.N_elder' (by (with_reducible repeat (first | apply Kd.N_alloc | apply Kd.N_drewN | apply Kd.N_drew)); exact HO227.out) (Kd.R_base ho17) hb); have n2_ := Aside0.mk (Kd.R_lower ho17 (below_size (by repeat (first | (with_reducible first | exact HB.out | apply below_alloc | apply pw_below_drewN | apply below_drew1) | exact HB.out)))); have n3_ := Aside0.mk (below_step (by repeat (first | (with_reducible first | exact HB.out | apply below_alloc | apply pw_below_drewN | apply below_drew1) | exact HB.out)) hb); clear HO222; clear HO227; clear HB; have HO222 := n0_; have HO227 := n1_; have HO230 := n2_; have HB := n3_; clear n0_ n1_ n2_ n3_; clear hb ho17) | ((with_reducible refine gate_builtin (b := .append) (xs := #[.tmp 39, .tmp 40]) rfl ?_); (try (refine gate_guard (by rfl) ?_; dsimp only)); at_builtin; refine Kd.R_append_rows (Kd.int .u8) (w0 := w) w.heap.size rfl (.tmp 39) (.tmp 40) 22 5 (.int .u8 0) 1 rfl Tryd.underlying22 info5 rfl (by decide) (by omega) v229 y228 l0 _ _ _ (fun _ => True) (fun _ => False) rfl rfl ?aO ?aR (fun _ _ h => h) (fun _ h => h.elim) ?aF ?aB ?aS ?aL ?_; (case aR => repeat (first | exact (Kd.C_below HR0.out HB.out) | (with_reducible refine Kd.C_alloc ?_ _) | (with_reducible refine Kd.C_drewN ?_ _) | (with_reducible refine Kd.C_drew ?_))); (case aB => exact (by repeat (first | (with_reducible first | exact HB.out | apply below_alloc | apply pw_below_drewN | apply below_drew1) | exact HB.out))); (case aF => exact (fun _ _ => trivial)); (case aO => exact (by (with_reducible repeat (first | apply Kd.R_alloc | apply Kd.R_drewN | apply Kd.R_drew)); exact HO230.out)); (case aS => exact (below_size (by repeat (first | (with_reducible first | exact HB.out | apply below_alloc | apply pw_below_drewN | apply below_drew1) | exact HB.out)))); (case aL => have := LMc10.out; omega); intro v232 w18 ho hb hg hat; rw [← Ny231.out] at ho; have n0_ := Aside0.mk (Kd.N_afterv (ok := (fun k_ => some k_ ≠ (v226 : Value).ownBlock)) (by (with_reducible repeat (first | apply Kd.N_alloc | apply Kd.N_drewN | apply Kd.N_drew)); exact Kd.N_mono HO222.out (fun _ hk => ⟨hk.1.2, hk.2⟩)) hg hat); have n1_ := Aside0.mk (Kd.N_afterv (ok := (fun k_ => some k_ ≠ (v221 : Value).ownBlock)) (by (with_reducible repeat (first | apply Kd.N_alloc | apply Kd.N_drewN | apply Kd.N_drew)); exact HO227.out) hg hat); have n2_ := Aside0.mk (hb); have n3_ := Aside0.mk (ho); clear HO222; clear HO227; clear HB; clear HO230; have HO222 := n0_; have HO227 := n1_; have HB := n2_; have HO233 := n3_; clear n0_ n1_ n2_ n3_; clear ho hb hg hat) | ((with_reducible refine gate_builtin (b := .append) (xs := #[.tmp 41, .tmp 42]) rfl ?_); (try (refine gate_guard (by rfl) ?_; dsimp only)); at_builtin; refine Kd.R_append (Kd.int .u8) (w0 := w) w.heap.size rfl (.tmp 41) (.tmp 42) 22 5 (.int .u8 0) 1 rfl Tryd.underlying22 info5 rfl (by decide) (by omega) v232 y231 10 [.int .u8 10] (fun _ => True) (fun _ => False) rfl rfl ?aP (fun _ hk => hk.elim) ?aF ?aO ?aB ?aS ?aL ?_; (case aP => exact rfl); (case aB => exact (by repeat (first | (with_reducible first | exact HB.out | apply below_alloc | apply pw_below_drewN | apply below_drew1) | exact HB.out))); (case aF => exact (fun _ _ => trivial)); (case aO => exact (by (with_reducible repeat (first | apply Kd.R_alloc | apply Kd.R_drewN | apply Kd.R_drew)); exact HO233.out)); (case aS => exact (below_size (by repeat (first | (with_reducible first | exact HB.out | apply below_alloc | apply pw_below_drewN | apply below_drew1) | exact HB.out)))); (case aL => have := LMc11.out; omega); intro v235 w19 ho hb hg hat; rw [← Ny234.out] at ho; have n0_ := Aside0.mk (Kd.N_afterv (ok := (fun k_ => some k_ ≠ (v226 : Value).ownBlock)) (by (with_reducible repeat (first | apply Kd.N_alloc | apply Kd.N_drewN | apply Kd.N_drew)); exact HO222.out) hg hat); have n1_ := Aside0.mk (Kd.N_afterv (ok := (fun k_ => some k_ ≠ (v221 : Value).ownBlock)) (by (with_reducible repeat (first | apply Kd.N_alloc | apply Kd.N_drewN | apply Kd.N_drew)); exact HO227.out) hg hat); have n2_ := Aside0.mk (hb); have n3_ := Aside0.mk (ho); clear HO222; clear HO227; clear HB; clear HO233; have HO222 := n0_; have HO227 := n1_; have HB := n2_; have HO236 := n3_; clear n0_ n1_ n2_ n3_; clear ho hb hg hat) | ((with_reducible refine gate_builtin (b := .append) (xs := #[.tmp 43, .tmp 44]) rfl ?_); (try (refine gate_guard (by rfl) ?_; dsimp only)); at_builtin; refine Kd.R_append_rows (Kd.int .u8) (w0 := w) w.heap.size rfl (.tmp 43) (.tmp 44) 22 5 (.int .u8 0) 1 rfl Tryd.underlying22 info5 rfl (by decide) (by omega) v235 y234 l1 _ _ _ (fun _ => True) (fun _ => False) rfl rfl ?aO ?aR (fun _ _ h => h) (fun _ h => h.elim) ?aF ?aB ?aS ?aL ?_; (case aR => repeat (first | exact (Kd.C_below HR1.out HB.out) | (with_reducible refine Kd.C_alloc ?_ _) | (with_reducible refine Kd.C_drewN ?_ _) | (with_reducible refine Kd.C_drew ?_))); (case aB => exact (by repeat (first | (with_reducible first | exact HB.out | apply below_alloc | apply pw_below_drewN | apply below_drew1) | exact HB.out))); (case aF => exact (fun _ _ => trivial)); (case aO => exact (by (with_reducible repeat (first | apply Kd.R_alloc | apply Kd.R_drewN | apply Kd.R_drew)); exact HO236.out)); (case aS => exact (below_size (by repeat (first | (with_reducible first | exact HB.out | apply below_alloc | apply pw_below_drewN | apply below_drew1) | exact HB.out)))); (case aL => have := LMc12.out; omega); intro v238 w20 ho hb hg hat; rw [← Ny237.out] at ho; have n0_ := Aside0.mk (Kd.N_afterv (ok := (fun k_ => some k_ ≠ (v226 : Value).ownBlock)) (by (with_reducible repeat (first | apply Kd.N_alloc | apply Kd.N_drewN | apply Kd.N_drew)); exact HO222.out) hg hat); have n1_ := Aside0.mk (Kd.N_afterv (ok := (fun k_ => some k_ ≠ (v221 : Value).ownBlock)) (by (with_reducible repeat (first | apply Kd.N_alloc | apply Kd.N_drewN | apply Kd.N_drew)); exact HO227.out) hg hat); have n2_ := Aside0.mk (hb); have n3_ := Aside0.mk (ho); clear HO222; clear HO227; clear HB; clear HO236; have HO222 := n0_; have HO227 := n1_; have HB := n2_; have HO239 := n3_; clear n0_ n1_ n2_ n3_; clear ho hb hg hat; obtain ⟨Ao21, co21, eo21⟩ := Kd.R_slice HO239.out; subst eo21) | ((with_reducible refine gate_callee (f := 8) rfl ?_); refine goesL_ (some 46) rfl rfl Tryd.func8 (by kernel_rfl) rfl #[.slice Ao21 y237.length co21] rfl (by (try simp only [List.map_toArray, List.map_cons, List.map_nil]); first | done | rfl | (simp only [List.length_drop, List.length_take]; rfl)) ?_; (with_reducible refine (lexer_Lines.calls _ _ y237 t240 t241 t242 _ ?side3 ?side1 ?side2 A13.out).mono ?_); (case side1 => repeat (first | exact (Kd.R_reads' HO239.out).2.2 | (with_reducible refine Kd.C_alloc ?_ _) | (with_reducible refine Kd.C_drewN ?_ _) | (with_reducible refine Kd.C_drew ?_))); (case side2 => exact (Kd.R_reads' HO239.out).2.1); (case side3 => exact Gl.below HGL.out (by repeat (first | (with_reducible first | exact HB.out | apply below_alloc | apply pw_below_drewN | apply below_drew1) | exact HB.out))); rintro e w22 ⟨v243, rfl, ho0, hb⟩; refine ⟨_, rfl, ?_⟩; have n0_ := Aside0.mk (Kd.N_elder' (by (with_reducible repeat (first | apply Kd.N_alloc | apply Kd.N_drewN | apply Kd.N_drew)); exact HO222.out) (by first | exact Kd.N_base ho0 | exact Kd.S_base ho0) hb); have n1_ := Aside0.mk (Kd.N_elder' (by (with_reducible repeat (first | apply Kd.N_alloc | apply Kd.N_drewN | apply Kd.N_drew)); exact HO227.out) (by first | exact Kd.N_base ho0 | exact Kd.S_base ho0) hb); have n2_ := Aside0.mk (Kd.R_below (by (with_reducible repeat (first | apply Kd.R_alloc | apply Kd.R_drewN | apply Kd.R_drew)); exact HO239.out) hb); have n3_ := Aside0.mk (Kd.N_lower (Kd.N_mono (ok' := fun k_ => some k_ ≠ (v221 : Value).ownBlock ∧ some k_ ≠ (v226 : Value).ownBlock ∧ some k_ ≠ (.slice Ao21 y237.length co21 : Value).ownBlock) (Kd.S_N (Kd.S_bound ho0)) (fun k_ hk_ => ⟨(Kd.fresh' (Kd.N_lt (by (with_reducible repeat (first | apply Kd.N_alloc | apply Kd.N_drewN | apply Kd.N_drew)); exact HO222.out)) k_ hk_.2.1), (Kd.fresh' (Kd.N_lt (by (with_reducible repeat (first | apply Kd.N_alloc | apply Kd.N_drewN | apply Kd.N_drew)); exact HO227.out)) k_ hk_.2.1), (Kd.fresh' (Kd.R_lt (by (with_reducible repeat (first | apply Kd.R_alloc | apply Kd.R_drewN | apply Kd.R_drew)); exact HO239.out)) k_ hk_.2.1)⟩)) (below_size (by repeat (first | (with_reducible first | exact HB.out | apply below_alloc | apply pw_below_drewN | apply below_drew1) | exact HB.out)))); have n4_ := Aside0.mk (below_step (by repeat (first | (with_reducible first | exact HB.out | apply below_alloc | apply pw_below_drewN | apply below_drew1) | exact HB.out)) hb); clear HO222; clear HO227; clear HO239; clear HB; have HO222 := n0_; have HO227 := n1_; have HO239 := n2_; have HO244 := n3_; have HB := n4_; clear n0_ n1_ n2_ n3_ n4_; (try clear hb); (try clear hb2); (try clear hk); (try clear hi); (try clear ho0)))
              go_loopg [14, 52] kj2 (fun kq v14 v52 w' => ∃ (x14_2 : Int) (x52_2 : Int), v14 = .int .i64 x14_2 ∧ v52 = .int .i64 x52_2 ∧ Aside0 (murmurationlaw13_LexerJoin.l0 kq l0 t218 t219 t220 t223 t224 t225 t240 t241 t242 x14_2 (l0.length : Int) x52_2 = some r) ∧ Aside0 (kq ≤ kj2) ∧ Aside0 (Kd.N k32 32 w' w.heap.size (fun k_ => some k_ ≠ (v226 : Value).ownBlock ∧ some k_ ≠ (v243 : Value).ownBlock) v221 t218) ∧ Aside0 (Kd.N k32 32 w' w.heap.size (fun k_ => some k_ ≠ (v221 : Value).ownBlock ∧ some k_ ≠ (v243 : Value).ownBlock) v226 t223) ∧ Aside0 (Kd.N k32 32 w' w.heap.size (fun k_ => some k_ ≠ (v221 : Value).ownBlock ∧ some k_ ≠ (v226 : Value).ownBlock) v243 t240) ∧ Aside0 (Below w.heap.size w w'))
              case atStart => exact ⟨(1), (0), (by first | rfl | (simp; done) | (simp [*]; done)), (by first | rfl | (simp; done) | (simp [*]; done)), H', ⟨Nat.le_refl _⟩, ⟨by (with_reducible repeat (first | apply Kd.N_alloc | apply Kd.N_drewN | apply Kd.N_drew)); exact Kd.N_mono HO222.out (fun _ hk => ⟨hk.1.1, hk.2⟩)⟩, ⟨by (with_reducible repeat (first | apply Kd.N_alloc | apply Kd.N_drewN | apply Kd.N_drew)); exact Kd.N_mono HO227.out (fun _ hk => ⟨hk.1.1, hk.2⟩)⟩, ⟨by (with_reducible repeat (first | apply Kd.N_alloc | apply Kd.N_drewN | apply Kd.N_drew)); exact Kd.N_mono HO244.out (fun _ hk => ⟨hk.1, hk.2.1⟩)⟩, ⟨by repeat (first | (with_reducible first | exact HB.out | apply below_alloc | apply pw_below_drewN | apply below_drew1) | exact HB.out)⟩⟩
              case round =>
                clear H'
                try clear c1
                try clear p2
                try clear c4
                try clear c4b0
                try clear c4b1
                try clear c5
                try clear c6
                try clear c7
                try clear c8
                try clear c10
                try clear c11
                try clear c12
                try clear p2
                obtain ⟨x14_2, x52_2, rfl, rfl, HA, HK2, HO_5, HO_8, HO_11, HB⟩ := hrel
                cases gk with
                | zero => exact absurd HA.out (by simp [murmurationlaw13_LexerJoin.l0])
                | succ k2 =>
                  have H := HA.out
                  clear HA
                  simp only [murmurationlaw13_LexerJoin.l0] at H
                  by_cases c23 : x52_2 < (l0.length : Int)
                  · rw [if_pos c23] at H
                    have c23b0 : decide (x52_2 < (l0.length : Int)) = true := decide_eq_true c23
                    clear c23
                    by_cases c24 : 0 ≤ x52_2
                    · rw [if_pos c24] at H
                      have c24b0 : decide (0 ≤ x52_2) = true := decide_eq_true c24
                      clear c24
                      by_cases c25 : x52_2 < (l0.length : Int)
                      · rw [if_pos c25] at H
                        have c25b0 : decide (x52_2 < (l0.length : Int)) = true := decide_eq_true c25
                        clear c25
                        by_cases c26 : (rd l0 x52_2) = 10
                        · rw [if_pos c26] at H
                          have c26b0 : ((rd l0 x52_2) == 10) = true := beq_iff_eq.mpr c26
                          have c26b1 : ((rd l0 x52_2) != 10) = false := bne_eq_false_iff_eq.mpr c26
                          clear c26
                          have H' := Aside0.mk H
                          clear H
                          have p245 : 0 ≤ (x52_2 : Int) := of_decide_eq_true (by first | (with_reducible assumption) | assumption)
                          have q245 : x52_2 < (l0.length : Int) := of_decide_eq_true (by first | (with_reducible assumption) | assumption)
                          obtain ⟨ad245, e245, hx245_0⟩ := Kd.at_int HR0.out x52_2 p245 q245
                          cases e245
                          replace hx245_0 := (HB.out.cell (World.block_lt_of_cell? w _ hx245_0)).trans hx245_0
                          replace p245 := eq_true p245
                          replace q245 := eq_true q245
                          go_wp2
                          go_roundg k2
                          case measure => have := HJ2.out; have := HK2.out; omega
                          case rel => exact ⟨(wrap64 (x14_2 + 1)), (wrap64 (x52_2 + 1)), (by first | rfl | (simp; done) | (simp [*]; done)), (by first | rfl | (simp; done) | (simp [*]; done)), H', ⟨by have := HJ2.out; have := HK2.out; omega⟩, ⟨by (with_reducible repeat (first | apply Kd.N_alloc | apply Kd.N_drewN | apply Kd.N_drew)); exact HO_5.out⟩, ⟨by (with_reducible repeat (first | apply Kd.N_alloc | apply Kd.N_drewN | apply Kd.N_drew)); exact HO_8.out⟩, ⟨by (with_reducible repeat (first | apply Kd.N_alloc | apply Kd.N_drewN | apply Kd.N_drew)); exact HO_11.out⟩, ⟨by repeat (first | (with_reducible first | exact HB.out | apply below_alloc | apply pw_below_drewN | apply below_drew1) | exact HB.out)⟩⟩
                        · rw [if_neg c26] at H
                          have c26b0 : ((rd l0 x52_2) == 10) = false := beq_eq_false_iff_ne.mpr c26
                          have c26b1 : ((rd l0 x52_2) != 10) = true := bne_iff_ne.mpr c26
                          have H' := Aside0.mk H
                          clear H
                          have p245 : 0 ≤ (x52_2 : Int) := of_decide_eq_true (by first | (with_reducible assumption) | assumption)
                          have q245 : x52_2 < (l0.length : Int) := of_decide_eq_true (by first | (with_reducible assumption) | assumption)
                          obtain ⟨ad245, e245, hx245_0⟩ := Kd.at_int HR0.out x52_2 p245 q245
                          cases e245
                          replace hx245_0 := (HB.out.cell (World.block_lt_of_cell? w _ hx245_0)).trans hx245_0
                          replace p245 := eq_true p245
                          replace q245 := eq_true q245
                          go_wp2
                          go_roundg k2
                          case measure => have := HJ2.out; have := HK2.out; omega
                          case rel => exact ⟨(x14_2), (wrap64 (x52_2 + 1)), (by first | rfl | (simp; done) | (simp [*]; done)), (by first | rfl | (simp; done) | (simp [*]; done)), H', ⟨by have := HJ2.out; have := HK2.out; omega⟩, ⟨by (with_reducible repeat (first | apply Kd.N_alloc | apply Kd.N_drewN | apply Kd.N_drew)); exact HO_5.out⟩, ⟨by (with_reducible repeat (first | apply Kd.N_alloc | apply Kd.N_drewN | apply Kd.N_drew)); exact HO_8.out⟩, ⟨by (with_reducible repeat (first | apply Kd.N_alloc | apply Kd.N_drewN | apply Kd.N_drew)); exact HO_11.out⟩, ⟨by repeat (first | (with_reducible first | exact HB.out | apply below_alloc | apply pw_below_drewN | apply below_drew1) | exact HB.out)⟩⟩
                      · rw [if_neg c25] at H
                        exact absurd H (by simp)
                    · rw [if_neg c24] at H
                      exact absurd H (by simp)
                  · rw [if_neg c23] at H
                    have c23b0 : decide (x52_2 < (l0.length : Int)) = false := decide_eq_false c23
                    clear c23
                    by_cases c27 : t220 = 0
                    · rw [if_pos c27] at H
                      have c27b0 : (t220 == 0) = true := beq_iff_eq.mpr c27
                      have c27b1 : (t220 != 0) = false := bne_eq_false_iff_eq.mpr c27
                      clear c27
                      by_cases c28 : t225 = 0
                      · rw [if_pos c28] at H
                        have c28b0 : (t225 == 0) = true := beq_iff_eq.mpr c28
                        have c28b1 : (t225 != 0) = false := bne_eq_false_iff_eq.mpr c28
                        clear c28
                        by_cases c29 : t242 = 0
                        · rw [if_pos c29] at H
                          have c29b0 : (t242 == 0) = true := beq_iff_eq.mpr c29
                          have c29b1 : (t242 != 0) = false := bne_eq_false_iff_eq.mpr c29
                          clear c29
                          by_cases c30 : (t240.length : Int) = (wrap64 ((t218.length : Int) + (t223.length : Int)))
                          · rw [if_pos c30] at H
                            have c30b0 : ((t240.length : Int) == (wrap64 ((t218.length : Int) + (t223.length : Int)))) = true := beq_iff_eq.mpr c30
                            have c30b1 : ((t240.length : Int) != (wrap64 ((t218.length : Int) + (t223.length : Int)))) = false := bne_eq_false_iff_eq.mpr c30
                            clear c30
                            have H' := Aside0.mk H
                            clear H
                            obtain ⟨Ao31, co31, eo31⟩ := Kd.N_slice HO_11.out
                            subst eo31
                            obtain ⟨Ao32, co32, eo32⟩ := Kd.N_slice HO_5.out
                            subst eo32
                            obtain ⟨Ao33, co33, eo33⟩ := Kd.N_slice HO_8.out
                            subst eo33
                            go_wp2
                            go_loopg [108] k2 (fun kq v108 w' => ∃ (x8_3 : List (S32)) (x108_3 : Int), v108 = .int .i64 x108_3 ∧ Aside0 (murmurationlaw13_LexerJoin.l1 kq t218 x8_3 t240 x14_2 (t223.length : Int) x108_3 = some r) ∧ Aside0 (kq ≤ k2) ∧ Aside0 (Kd.N k32 32 w' w.heap.size (fun k_ => some k_ ≠ ((.slice Ao33 t223.length co33) : Value).ownBlock ∧ some k_ ≠ ((.slice Ao31 t240.length co31) : Value).ownBlock) (.slice Ao32 t218.length co32) t218) ∧ Aside0 (Kd.N k32 32 w' w.heap.size (fun k_ => some k_ ≠ ((.slice Ao32 t218.length co32) : Value).ownBlock ∧ some k_ ≠ ((.slice Ao31 t240.length co31) : Value).ownBlock) (.slice Ao33 t223.length co33) x8_3) ∧ Aside0 (Kd.N k32 32 w' w.heap.size (fun k_ => some k_ ≠ ((.slice Ao32 t218.length co32) : Value).ownBlock ∧ some k_ ≠ ((.slice Ao33 t223.length co33) : Value).ownBlock) (.slice Ao31 t240.length co31) t240) ∧ Aside0 (Below w.heap.size w w'))
                            case atStart => exact ⟨(t223), (0), (by first | rfl | (simp; done) | (simp [*]; done)), H', ⟨Nat.le_refl _⟩, ⟨by (with_reducible repeat (first | apply Kd.N_alloc | apply Kd.N_drewN | apply Kd.N_drew)); exact HO_5.out⟩, ⟨by (with_reducible repeat (first | apply Kd.N_alloc | apply Kd.N_drewN | apply Kd.N_drew)); exact HO_8.out⟩, ⟨by (with_reducible repeat (first | apply Kd.N_alloc | apply Kd.N_drewN | apply Kd.N_drew)); exact HO_11.out⟩, ⟨by repeat (first | (with_reducible first | exact HB.out | apply below_alloc | apply pw_below_drewN | apply below_drew1) | exact HB.out)⟩⟩
                            case round =>
                              clear H'
                              try clear c1
                              try clear c2
                              try clear p2
                              try clear q2
                              try clear hx2
                              try clear c3
                              try clear c4
                              try clear c4b0
                              try clear c4b1
                              try clear c5
                              try clear c6
                              try clear p6
                              try clear c7
                              try clear c8
                              try clear c10
                              try clear c11
                              try clear c12
                              try clear c23
                              try clear c23b0
                              try clear c24
                              try clear c24b0
                              try clear p24
                              try clear q24
                              try clear hx24
                              try clear c25
                              try clear c25b0
                              try clear c26
                              try clear c26b0
                              try clear c26b1
                              try clear c27
                              try clear c27b0
                              try clear c27b1
                              try clear c28
                              try clear c28b0
                              try clear c28b1
                              try clear c29
                              try clear c29b0
                              try clear c29b1
                              try clear c30
                              try clear c30b0
                              try clear c30b1
                              try clear hx245_0
                              try clear p2
                              try clear p245
                              try clear q245
                              obtain ⟨x8_3, x108_3, rfl, HA, HK3, HO_5, HO_8, HO_11, HB⟩ := hrel
                              have hl8_3 := (Kd.N_reads' HO_8.out).1
                              rw [hl8_3] at HO_8
                              (try simp only [hl8_3])
                              (try simp only [hl8_3] at HO_5)
                              (try simp only [hl8_3] at HO_11)
                              cases gk with
                              | zero => exact absurd HA.out (by simp [murmurationlaw13_LexerJoin.l1])
                              | succ k3 =>
                                have H := HA.out
                                clear HA
                                simp only [murmurationlaw13_LexerJoin.l1] at H
                                by_cases c34 : x108_3 < (t223.length : Int)
                                · rw [if_pos c34] at H
                                  have c34b0 : decide (x108_3 < (t223.length : Int)) = true := decide_eq_true c34
                                  clear c34
                                  by_cases c35 : 0 ≤ x108_3
                                  · rw [if_pos c35] at H
                                    have c35b0 : decide (0 ≤ x108_3) = true := decide_eq_true c35
                                    clear c35
                                    by_cases c36 : x108_3 < (x8_3.length : Int)
                                    · rw [if_pos c36] at H
                                      have c36b0 : decide (x108_3 < (x8_3.length : Int)) = true := decide_eq_true c36
                                      clear c36
                                      obtain ⟨y249, hy249⟩ : ∃ y_ : List (S32), y_ = (x8_3.set (x108_3 : Int).toNat (⟨wrap64 (((rd_T32 x8_3 x108_3).f0) + x14_2), (rd_T32 x8_3 x108_3).f1⟩ : S32)) := ⟨_, rfl⟩
                                      replace H : (murmurationlaw13_LexerJoin.l1 k3 t218 y249 t240 x14_2 (t223.length : Int) (wrap64 (x108_3 + 1))) = some r := by first | (rw [hy249]; with_reducible exact H) | (have H2_ := (Option.bind_some _ _).symm.trans H; rw [hy249]; with_reducible exact H2_) | (have H2_ := (Option.bind_some _ _).symm.trans H; with_reducible exact H2_) | with_reducible exact H | (rw [hy249]; exact H) | exact H
                                      have Ny249 := Aside0.mk hy249
                                      clear hy249
                                      have H' := Aside0.mk H
                                      clear H
                                      have p248 : 0 ≤ (x108_3 : Int) := of_decide_eq_true (by first | (with_reducible assumption) | assumption)
                                      have q248 : x108_3 < (x8_3.length : Int) := of_decide_eq_true (by first | (with_reducible assumption) | assumption)
                                      obtain ⟨ad248, A248_1, c248_1, e248, hx248_0, hx248_1, hl248_1, hi248_1⟩ := at_T32 (Kd.N_reads' HO_8.out).2.2 x108_3 p248 q248
                                      cases e248
                                      obtain ⟨ce248, hce248, hMe248, hcc248⟩ := Kd.N_get HO_8.out z32 x108_3 p248 (by first | exact q248 | exact of_decide_eq_true (by first | (with_reducible assumption) | assumption) | (have e_ := (Kd.N_reads' HO_8.out).1; omega))
                                      obtain ⟨ua248_1, uc248_1, rfl, ul248_1, ge248_1⟩ := k32_openF hMe248
                                      have hv248_1 := hcc248 1 _ rfl
                                      rw [add_field _ _ 1 (by omega)] at hv248_1
                                      replace hv248_1 := Option.some.inj (hv248_1.symm.trans hx248_1)
                                      injection hv248_1 with hva_ hvn_ hvc_
                                      rw [hva_] at ge248_1
                                      rw [hvc_] at ul248_1
                                      have HL248_1 := Aside0.mk (show Kd.V Kd.string 9 _ w.heap.size _ _ ((rd_T32 x8_3 x108_3).f1) from Kd.V_mk ul248_1 ge248_1)
                                      clear hva_ hvn_ hvc_ ge248_1 ul248_1
                                      clear hcc248 hce248
                                      have HR248_1 := Aside0.mk hi248_1
                                      have HC248_1 := Aside0.mk hl248_1
                                      clear hi248_1 hl248_1
                                      replace p248 := eq_true p248
                                      replace q248 := eq_true q248
                                      have p37 : 0 ≤ (x108_3 : Int) := of_decide_eq_true (by first | (with_reducible assumption) | assumption)
                                      have q37 : (x108_3 : Int) < ((x8_3.length : Int) : Int) := of_decide_eq_true (by first | (with_reducible assumption) | assumption)
                                      obtain ⟨go37, co37, eo37, gb37, gl37, cl37, HG37⟩ := Kd.N_form HO_8.out (by omega)
                                      (first | cases eo37 | (injection eo37 with ea_ en_ ec_; (first | subst ea_ | (injection ea_ with ea_; subst ea_)); subst ec_; clear en_))
                                      have GB37 := Aside0.mk gb37
                                      have GG37 := Aside0.mk HG37
                                      clear gb37 gl37 HG37
                                      (first | simp only [add_plain] at hx248_0 | skip)
                                      (first | simp only [add_plain] at hx248_1 | skip)
                                      obtain ⟨ce37, hcl37, hM37, hcc37, hfr37⟩ := Kd.N_elem HO_8.out z32 (x108_3 : Int) p37 q37
                                      obtain ⟨ua37_1, uc37_1, rfl, ul37_1, ge37_1⟩ := k32_openF hM37
                                      have hx37_0 : wr.cell? ⟨go37, (x108_3 : Int).toNat * 2, none⟩ = some (.int .i64 ((rd_T32 x8_3 x108_3).f0)) := hcc37 0 _ rfl
                                      have hx37_1 : wr.cell? ⟨go37, (x108_3 : Int).toNat * 2 + 1, none⟩ = some (.slice ua37_1 ((rd_T32 x8_3 x108_3).f1).length uc37_1) := hcc37 1 _ rfl
                                      have hf37_0 : wr.frozen? ⟨go37, (x108_3 : Int).toNat * 2, none⟩ = false := hfr37 0
                                      have hf37_1 : wr.frozen? ⟨go37, (x108_3 : Int).toNat * 2 + 1, none⟩ = false := hfr37 1
                                      clear hcl37 hcc37 hfr37 hM37
                                      replace p37 := eq_true p37
                                      replace q37 := eq_true q37
                                      have HX38 := Aside0.mk (show Kd.N k32 32 wr w.heap.size (fun k_ => some k_ ≠ (.slice Ao32 t218.length co32 : Value).ownBlock ∧ some k_ ≠ (.slice Ao31 t240.length co31 : Value).ownBlock) (.slice (some ⟨go37, 0, none⟩) x8_3.length co33) x8_3 from (by (with_reducible repeat (first | apply Kd.N_alloc | apply Kd.N_drewN | apply Kd.N_drew)); exact HO_8.out))
                                      obtain ⟨ce38, hcl38, hM38, hcc38, hfr38⟩ := Kd.N_elem HX38.out z32 (x108_3 : Int) (of_decide_eq_true (by first | (with_reducible assumption) | assumption)) (by have h_ : (x108_3 : Int) < ((x8_3.length : Int) : Int) := of_decide_eq_true (by first | (with_reducible assumption) | assumption); first | exact h_ | (have e_ := (Kd.N_reads' HO_8.out).1; omega) | simpa using h_)
                                      obtain ⟨ua38_1, uc38_1, rfl, ul38_1, ge38_1⟩ := k32_openF hM38
                                      have HP38 := Kd.N_seg HX38.out (x108_3 : Int) (of_decide_eq_true (by first | (with_reducible assumption) | assumption)) (by have h_ : (x108_3 : Int) < ((x8_3.length : Int) : Int) := of_decide_eq_true (by first | (with_reducible assumption) | assumption); first | exact h_ | (have e_ := (Kd.N_reads' HO_8.out).1; omega) | simpa using h_) (seg := [.int .i64 (wrap64 (((rd_T32 x8_3 x108_3).f0) + x14_2))]) (j := 0) hcl38 hcc38 (show 1 ≤ 2 from by decide) (x' := (⟨wrap64 (((rd_T32 x8_3 x108_3).f0) + x14_2), (rd_T32 x8_3 x108_3).f1⟩ : S32)) (k32_mkF _ _ (⟨wrap64 (((rd_T32 x8_3 x108_3).f0) + x14_2), (rd_T32 x8_3 x108_3).f1⟩ : S32) ul38_1 ge38_1) (fun _ hk => hk)
                                      have hx38_0 := hcc38 0 _ rfl
                                      (try simp only [show (k32).sz = 2 from rfl, Nat.mul_one, Nat.add_zero] at hx38_0)
                                      have hf38_0 := hfr38 0
                                      (try simp only [show (k32).sz = 2 from rfl, Nat.mul_one, Nat.add_zero] at hf38_0)
                                      clear hcl38 hcc38 hfr38 hM38
                                      go_wp2_with (first | ((with_reducible refine gate_store (t := 3) (p := 119) rfl ?_); refine store_event (t := 3) (p := 119) (v := ?vo_w39) (w1 := (wr.setCell ⟨go37, (x108_3 : Int).toNat * 2, none⟩ (.int .i64 (wrap64 (((rd_T32 x8_3 x108_3).f0) + x14_2))))) ?hg ?ho ?hn ?hr ?_; (case ho => rfl); (case hg => rfl); (case hn => rfl); (case hr => first | (go_simp; done) | (go_simp; rfl)); intro w39 hw; have hg : wr.grownBy w39 (some go37) := (by rw [hw]; exact HP38.2); have hp_ : Kd.N k32 32 w39 w.heap.size (fun k_ => some k_ ≠ (.slice Ao32 t218.length co32 : Value).ownBlock ∧ some k_ ≠ (.slice Ao31 t240.length co31 : Value).ownBlock) (.slice (some ⟨go37, 0, none⟩) x8_3.length co33) y249 := (by rw [hw, Ny249.out]; exact HP38.1); clear HP38; have n0_ := Aside0.mk (Kd.N_afterv (v := (.slice (some ⟨go37, 0, none⟩) x8_3.length co33)) (v1 := (.slice (some ⟨go37, 0, none⟩) x8_3.length co33)) (ok := (fun k_ => some k_ ≠ (.slice Ao31 t240.length co31 : Value).ownBlock)) (by (with_reducible repeat (first | apply Kd.N_alloc | apply Kd.N_drewN | apply Kd.N_drew)); exact Kd.N_mono HO_5.out (fun _ hk => ⟨hk.2, hk.1⟩)) hg (.inl rfl)); have n1_ := Aside0.mk (hp_); have n2_ := Aside0.mk (Kd.N_afterv (v := (.slice (some ⟨go37, 0, none⟩) x8_3.length co33)) (v1 := (.slice (some ⟨go37, 0, none⟩) x8_3.length co33)) (ok := (fun k_ => some k_ ≠ (.slice Ao32 t218.length co32 : Value).ownBlock)) (by (with_reducible repeat (first | apply Kd.N_alloc | apply Kd.N_drewN | apply Kd.N_drew)); exact HO_11.out) hg (.inl rfl)); have n3_ := Aside0.mk (Kd.V_afterv (v := (.slice (some ⟨go37, 0, none⟩) x8_3.length co33)) (v1 := (.slice (some ⟨go37, 0, none⟩) x8_3.length co33)) (ok := (fun k_ => some k_ ≠ (.slice Ao32 t218.length co32 : Value).ownBlock ∧ some k_ ≠ (.slice Ao31 t240.length co31 : Value).ownBlock)) (by (with_reducible repeat (first | apply Kd.V_alloc | apply Kd.V_drewN | apply Kd.V_drew)); exact HL248_1.out) hg (.inl rfl)); have n4_ := Aside0.mk ((by rw [hw]; exact below_set (HB.out) GB37.out : Below w.heap.size w w39)); clear HO_5; clear HO_8; clear HO_11; clear HL248_1; clear HB; have HO_5 := n0_; have HO_8 := n1_; have HO_11 := n2_; have HL248_1 := n3_; have HB := n4_; clear n0_ n1_ n2_ n3_ n4_; clear hg hw hp_))
                                      (try simp only [← hl8_3])
                                      go_roundg k3
                                      case measure => have := HJ2.out; have := HK2.out; have := HK3.out; omega
                                      case rel => exact ⟨(y249), (wrap64 (x108_3 + 1)), (by first | rfl | (simp; done) | (simp [*]; done)), H', ⟨by have := HJ2.out; have := HK2.out; have := HK3.out; omega⟩, ⟨by (try simp only [hl8_3]); (with_reducible repeat (first | apply Kd.N_alloc | apply Kd.N_drewN | apply Kd.N_drew)); exact Kd.N_mono HO_5.out (fun _ hk => ⟨hk.2, hk.1⟩)⟩, ⟨by (try simp only [hl8_3]); (with_reducible repeat (first | apply Kd.N_alloc | apply Kd.N_drewN | apply Kd.N_drew)); exact HO_8.out⟩, ⟨by (try simp only [hl8_3]); (with_reducible repeat (first | apply Kd.N_alloc | apply Kd.N_drewN | apply Kd.N_drew)); exact HO_11.out⟩, ⟨by repeat (first | (with_reducible first | exact HB.out | apply below_alloc | apply pw_below_drewN | apply below_drew1) | exact HB.out)⟩⟩
                                    · rw [if_neg c36] at H
                                      exact absurd H (by simp)
                                  · rw [if_neg c35] at H
                                    exact absurd H (by simp)
                                · rw [if_neg c34] at H
                                  have c34b0 : decide (x108_3 < (t223.length : Int)) = false := decide_eq_false c34
                                  try rw [hl8_3] at c34b0
                                  clear c34
                                  by_cases c40 : t218.length + x8_3.length < 4398046511104
                                  · rw [if_pos c40] at H
                                    have LMc40 := Aside0.mk c40
                                    clear c40
                                    obtain ⟨y250, hy250⟩ : ∃ y_ : List (S32), y_ = (t218 ++ x8_3) := ⟨_, rfl⟩
                                    replace H : ((murmurationref13_Same.f k3 t240 y250).bind fun t253 => (if t253 = true then ((murmurationlaw13_known.f).bind fun t254 => (some t254)) else (some false))) = some r := by first | (rw [hy250]; with_reducible exact H) | (have H2_ := (Option.bind_some _ _).symm.trans H; rw [hy250]; with_reducible exact H2_) | (have H2_ := (Option.bind_some _ _).symm.trans H; with_reducible exact H2_) | with_reducible exact H | (rw [hy250]; exact H) | exact H
                                    have Ny250 := Aside0.mk hy250
                                    clear hy250
                                    replace H := Option.bind_eq_some_iff.mp H
                                    obtain ⟨t253, A410, H⟩ := H
                                    replace H : (if t253 = true then ((murmurationlaw13_known.f).bind fun t254 => (some t254)) else (some false)) = some r := H
                                    have A41 := Aside0.mk A410
                                    clear A410
                                    by_cases c42 : t253 = true
                                    · subst c42
                                      have H1 : ((murmurationlaw13_known.f).bind fun t254 => (some t254)) = some r := by rw [if_pos rfl] at H; exact H
                                      clear H
                                      have H := H1
                                      clear H1
                                      replace H := Option.bind_eq_some_iff.mp H
                                      obtain ⟨t254, A430, H⟩ := H
                                      replace H : (some t254) = some r := H
                                      have A43 := Aside0.mk A430
                                      clear A430
                                      obtain rfl := Option.some.inj H
                                      go_wp2_with (first | ((with_reducible refine gate_builtin (b := .append) (xs := #[.tmp 122, .tmp 123]) rfl ?_); (try (refine gate_guard (by rfl) ?_; dsimp only)); at_builtin; refine Kd.N_append_rows k32 (w0 := w) w.heap.size rfl (.tmp 122) (.tmp 123) 24 32 (.agg #[(.int .i64 0), (.slice none 0 0)]) 32 rfl Tryd.underlying24 info32 rfl (by decide) (by omega) (.slice Ao32 t218.length co32) t218 x8_3 _ _ _ (fun k_ => some k_ ≠ (.slice Ao31 t240.length co31 : Value).ownBlock) (fun k_ => ((fun k_ => some k_ ≠ (.slice Ao31 t240.length co31 : Value).ownBlock)) k_ ∧ some k_ ≠ (.slice Ao32 t218.length co32 : Value).ownBlock) rfl rfl ?aO ?aR (fun _ hk => hk) ?aF ?aB ?aS ?aL ?_; (case aR => exact (by skip; exact Kd.N_F (Kd.N_mono (ok' := (fun k_ => ((fun k_ => some k_ ≠ (.slice Ao31 t240.length co31 : Value).ownBlock)) k_ ∧ some k_ ≠ (.slice Ao32 t218.length co32 : Value).ownBlock)) (HO_8.out) (fun k_ hk => ⟨hk.2, hk.1⟩)))); (case aB => exact (by repeat (first | (with_reducible first | exact HB.out | apply below_alloc | apply pw_below_drewN | apply below_drew1) | exact HB.out))); (case aF => exact (fun k_ hk => Kd.fresh' (Kd.N_lt (by (with_reducible repeat (first | apply Kd.N_alloc | apply Kd.N_drewN | apply Kd.N_drew)); exact HO_11.out)) k_ hk)); (case aO => exact (by (with_reducible repeat (first | apply Kd.N_alloc | apply Kd.N_drewN | apply Kd.N_drew)); exact Kd.N_mono HO_5.out (fun _ hk => hk.2))); (case aS => exact (below_size (by repeat (first | (with_reducible first | exact HB.out | apply below_alloc | apply pw_below_drewN | apply below_drew1) | exact HB.out)))); (case aL => have := LMc40.out; omega); intro v251 w44 ho hb hg hat; rw [← Ny250.out] at ho; have n0_ := Aside0.mk (Kd.N_afterv (ok := (fun k_ => some k_ ≠ (.slice Ao31 t240.length co31 : Value).ownBlock)) (by (with_reducible repeat (first | apply Kd.N_alloc | apply Kd.N_drewN | apply Kd.N_drew)); exact Kd.N_mono HO_8.out (fun _ hk => ⟨hk.2, hk.1⟩)) hg hat); have n1_ := Aside0.mk (Kd.N_afterv (ok := (fun k_ => some k_ ≠ (.slice Ao33 x8_3.length co33 : Value).ownBlock)) (by (with_reducible repeat (first | apply Kd.N_alloc | apply Kd.N_drewN | apply Kd.N_drew)); exact Kd.N_mono HO_11.out (fun _ hk => ⟨hk.2, hk.1⟩)) hg hat); have n2_ := Aside0.mk (hb); have n3_ := Aside0.mk (ho); clear HO_8; clear HO_11; clear HB; clear HO_5; have HO_8 := n0_; have HO_11 := n1_; have HB := n2_; have HO252 := n3_; clear n0_ n1_ n2_ n3_; clear ho hb hg hat; obtain ⟨Ao45, co45, eo45⟩ := Kd.N_slice HO252.out; subst eo45) | ((with_reducible refine gate_callee (f := 10) rfl ?_); refine goesL_ (some 125) rfl rfl Tryd.func10 (by kernel_rfl) rfl #[.slice Ao31 t240.length co31, .slice Ao45 y250.length co45] rfl (by (try simp only [List.map_toArray, List.map_cons, List.map_nil]); first | done | rfl | (simp only [List.length_drop, List.length_take]; rfl)) ?_; (with_reducible refine (murmurationref13_Same.calls k3 _ _ t240 _ _ y250 true _ ?side1 ?side2 ?side3 ?side4 A41.out).mono ?_); (case side1 => repeat (first | exact (Kd.N_reads' HO_11.out).2.2 | (with_reducible refine Kd.C_alloc ?_ _) | (with_reducible refine Kd.C_drewN ?_ _) | (with_reducible refine Kd.C_drew ?_))); (case side2 => exact (Kd.N_reads' HO_11.out).2.1); (case side3 => repeat (first | exact (Kd.N_reads' HO252.out).2.2 | (with_reducible refine Kd.C_alloc ?_ _) | (with_reducible refine Kd.C_drewN ?_ _) | (with_reducible refine Kd.C_drew ?_))); (case side4 => exact (Kd.N_reads' HO252.out).2.1); rintro e w' ⟨rfl, ⟨nd, rfl⟩⟩; refine ⟨_, rfl, ?_⟩) | (go_at_call 7; (with_reducible refine (murmurationlaw13_known.calls  t254 _ ?side1 A43.out).mono ?_); (case side1 => exact Gl.below HGL.out (by repeat (first | (with_reducible first | exact HB.out | apply below_alloc | apply pw_below_drewN | apply below_drew1) | exact HB.out))); rintro e w46 ⟨rfl, hb⟩; have n0_ := Aside0.mk (Kd.N_below (by (with_reducible repeat (first | apply Kd.N_alloc | apply Kd.N_drewN | apply Kd.N_drew)); exact HO_8.out) hb); have n1_ := Aside0.mk (Kd.N_below (by (with_reducible repeat (first | apply Kd.N_alloc | apply Kd.N_drewN | apply Kd.N_drew)); exact HO_11.out) hb); have n2_ := Aside0.mk (Kd.N_below (by (with_reducible repeat (first | apply Kd.N_alloc | apply Kd.N_drewN | apply Kd.N_drew)); exact HO252.out) hb); have n3_ := Aside0.mk (below_step (by repeat (first | (with_reducible first | exact HB.out | apply below_alloc | apply pw_below_drewN | apply below_drew1) | exact HB.out)) hb); clear HO_8; clear HO_11; clear HO252; clear HB; have HO_8 := n0_; have HO_11 := n1_; have HO252 := n2_; have HB := n3_; clear n0_ n1_ n2_ n3_; (try clear hb); (try clear hb2); (try clear hk); (try clear hi)))
                                      go_ret
                                      exact ⟨by first | rfl | (simp [errW_none, errW_some] <;> rfl) | (simp [*, errW_none, errW_some] <;> rfl), by repeat (first | (with_reducible first | exact HB.out | apply below_alloc | apply pw_below_drewN | apply below_drew1) | exact HB.out)⟩
                                    · replace c42 := Bool.eq_false_iff.mpr c42
                                      subst c42
                                      have H1 : (some false) = some r := by rw [if_neg (show ¬ (false = true) by decide)] at H; exact H
                                      clear H
                                      have H := H1
                                      clear H1
                                      obtain rfl := Option.some.inj H
                                      go_wp2_with (first | ((with_reducible refine gate_builtin (b := .append) (xs := #[.tmp 122, .tmp 123]) rfl ?_); (try (refine gate_guard (by rfl) ?_; dsimp only)); at_builtin; refine Kd.N_append_rows k32 (w0 := w) w.heap.size rfl (.tmp 122) (.tmp 123) 24 32 (.agg #[(.int .i64 0), (.slice none 0 0)]) 32 rfl Tryd.underlying24 info32 rfl (by decide) (by omega) (.slice Ao32 t218.length co32) t218 x8_3 _ _ _ (fun k_ => some k_ ≠ (.slice Ao31 t240.length co31 : Value).ownBlock) (fun k_ => ((fun k_ => some k_ ≠ (.slice Ao31 t240.length co31 : Value).ownBlock)) k_ ∧ some k_ ≠ (.slice Ao32 t218.length co32 : Value).ownBlock) rfl rfl ?aO ?aR (fun _ hk => hk) ?aF ?aB ?aS ?aL ?_; (case aR => exact (by skip; exact Kd.N_F (Kd.N_mono (ok' := (fun k_ => ((fun k_ => some k_ ≠ (.slice Ao31 t240.length co31 : Value).ownBlock)) k_ ∧ some k_ ≠ (.slice Ao32 t218.length co32 : Value).ownBlock)) (HO_8.out) (fun k_ hk => ⟨hk.2, hk.1⟩)))); (case aB => exact (by repeat (first | (with_reducible first | exact HB.out | apply below_alloc | apply pw_below_drewN | apply below_drew1) | exact HB.out))); (case aF => exact (fun k_ hk => Kd.fresh' (Kd.N_lt (by (with_reducible repeat (first | apply Kd.N_alloc | apply Kd.N_drewN | apply Kd.N_drew)); exact HO_11.out)) k_ hk)); (case aO => exact (by (with_reducible repeat (first | apply Kd.N_alloc | apply Kd.N_drewN | apply Kd.N_drew)); exact Kd.N_mono HO_5.out (fun _ hk => hk.2))); (case aS => exact (below_size (by repeat (first | (with_reducible first | exact HB.out | apply below_alloc | apply pw_below_drewN | apply below_drew1) | exact HB.out)))); (case aL => have := LMc40.out; omega); intro v251 w47 ho hb hg hat; rw [← Ny250.out] at ho; have n0_ := Aside0.mk (Kd.N_afterv (ok := (fun k_ => some k_ ≠ (.slice Ao31 t240.length co31 : Value).ownBlock)) (by (with_reducible repeat (first | apply Kd.N_alloc | apply Kd.N_drewN | apply Kd.N_drew)); exact Kd.N_mono HO_8.out (fun _ hk => ⟨hk.2, hk.1⟩)) hg hat); have n1_ := Aside0.mk (Kd.N_afterv (ok := (fun k_ => some k_ ≠ (.slice Ao33 x8_3.length co33 : Value).ownBlock)) (by (with_reducible repeat (first | apply Kd.N_alloc | apply Kd.N_drewN | apply Kd.N_drew)); exact Kd.N_mono HO_11.out (fun _ hk => ⟨hk.2, hk.1⟩)) hg hat); have n2_ := Aside0.mk (hb); have n3_ := Aside0.mk (ho); clear HO_8; clear HO_11; clear HB; clear HO_5; have HO_8 := n0_; have HO_11 := n1_; have HB := n2_; have HO252 := n3_; clear n0_ n1_ n2_ n3_; clear ho hb hg hat; obtain ⟨Ao48, co48, eo48⟩ := Kd.N_slice HO252.out; subst eo48) | ((with_reducible refine gate_callee (f := 10) rfl ?_); refine goesL_ (some 125) rfl rfl Tryd.func10 (by kernel_rfl) rfl #[.slice Ao31 t240.length co31, .slice Ao48 y250.length co48] rfl (by (try simp only [List.map_toArray, List.map_cons, List.map_nil]); first | done | rfl | (simp only [List.length_drop, List.length_take]; rfl)) ?_; (with_reducible refine (murmurationref13_Same.calls k3 _ _ t240 _ _ y250 false _ ?side1 ?side2 ?side3 ?side4 A41.out).mono ?_); (case side1 => repeat (first | exact (Kd.N_reads' HO_11.out).2.2 | (with_reducible refine Kd.C_alloc ?_ _) | (with_reducible refine Kd.C_drewN ?_ _) | (with_reducible refine Kd.C_drew ?_))); (case side2 => exact (Kd.N_reads' HO_11.out).2.1); (case side3 => repeat (first | exact (Kd.N_reads' HO252.out).2.2 | (with_reducible refine Kd.C_alloc ?_ _) | (with_reducible refine Kd.C_drewN ?_ _) | (with_reducible refine Kd.C_drew ?_))); (case side4 => exact (Kd.N_reads' HO252.out).2.1); rintro e w' ⟨rfl, ⟨nd, rfl⟩⟩; refine ⟨_, rfl, ?_⟩))
                                      go_ret
                                      exact ⟨by first | rfl | (simp [errW_none, errW_some] <;> rfl) | (simp [*, errW_none, errW_some] <;> rfl), by repeat (first | (with_reducible first | exact HB.out | apply below_alloc | apply pw_below_drewN | apply below_drew1) | exact HB.out)⟩
                                  · rw [if_neg c40] at H
                                    exact absurd H (by simp)
                          · rw [if_neg c30] at H
                            have c30b0 : ((t240.length : Int) == (wrap64 ((t218.length : Int) + (t223.length : Int)))) = false := beq_eq_false_iff_ne.mpr c30
                            have c30b1 : ((t240.length : Int) != (wrap64 ((t218.length : Int) + (t223.length : Int)))) = true := bne_iff_ne.mpr c30
                            obtain rfl := Option.some.inj H
                            obtain ⟨Ao49, co49, eo49⟩ := Kd.N_slice HO_11.out
                            subst eo49
                            obtain ⟨Ao50, co50, eo50⟩ := Kd.N_slice HO_5.out
                            subst eo50
                            obtain ⟨Ao51, co51, eo51⟩ := Kd.N_slice HO_8.out
                            subst eo51
                            go_wp2
                            go_ret
                            exact ⟨by first | rfl | (simp [errW_none, errW_some] <;> rfl) | (simp [*, errW_none, errW_some] <;> rfl), by repeat (first | (with_reducible first | exact HB.out | apply below_alloc | apply pw_below_drewN | apply below_drew1) | exact HB.out)⟩
                        · rw [if_neg c29] at H
                          have c29b0 : (t242 == 0) = false := beq_eq_false_iff_ne.mpr c29
                          have c29b1 : (t242 != 0) = true := bne_iff_ne.mpr c29
                          obtain rfl := Option.some.inj H
                          go_wp2
                          go_ret
                          exact ⟨by first | rfl | (simp [errW_none, errW_some] <;> rfl) | (simp [*, errW_none, errW_some] <;> rfl), by repeat (first | (with_reducible first | exact HB.out | apply below_alloc | apply pw_below_drewN | apply below_drew1) | exact HB.out)⟩
                      · rw [if_neg c28] at H
                        have c28b0 : (t225 == 0) = false := beq_eq_false_iff_ne.mpr c28
                        have c28b1 : (t225 != 0) = true := bne_iff_ne.mpr c28
                        by_cases c52 : t242 = t225
                        · rw [if_pos c52] at H
                          have c52b0 : (t242 == t225) = true := beq_iff_eq.mpr c52
                          have c52b1 : (t242 != t225) = false := bne_eq_false_iff_eq.mpr c52
                          clear c52
                          by_cases c53 : t241 = (wrap64 (x14_2 + t224))
                          · rw [if_pos c53] at H
                            have c53b0 : (t241 == (wrap64 (x14_2 + t224))) = true := beq_iff_eq.mpr c53
                            have c53b1 : (t241 != (wrap64 (x14_2 + t224))) = false := bne_eq_false_iff_eq.mpr c53
                            clear c53
                            replace H := Option.bind_eq_some_iff.mp H
                            obtain ⟨t246, A540, H⟩ := H
                            replace H : (some t246) = some r := H
                            have A54 := Aside0.mk A540
                            clear A540
                            obtain rfl := Option.some.inj H
                            go_wp2_with (first | (go_at_call 7; (with_reducible refine (murmurationlaw13_known.calls  t246 _ ?side1 A54.out).mono ?_); (case side1 => exact Gl.below HGL.out (by repeat (first | (with_reducible first | exact HB.out | apply below_alloc | apply pw_below_drewN | apply below_drew1) | exact HB.out))); rintro e w55 ⟨rfl, hb⟩; have n0_ := Aside0.mk (Kd.N_below (by (with_reducible repeat (first | apply Kd.N_alloc | apply Kd.N_drewN | apply Kd.N_drew)); exact HO_5.out) hb); have n1_ := Aside0.mk (Kd.N_below (by (with_reducible repeat (first | apply Kd.N_alloc | apply Kd.N_drewN | apply Kd.N_drew)); exact HO_8.out) hb); have n2_ := Aside0.mk (Kd.N_below (by (with_reducible repeat (first | apply Kd.N_alloc | apply Kd.N_drewN | apply Kd.N_drew)); exact HO_11.out) hb); have n3_ := Aside0.mk (below_step (by repeat (first | (with_reducible first | exact HB.out | apply below_alloc | apply pw_below_drewN | apply below_drew1) | exact HB.out)) hb); clear HO_5; clear HO_8; clear HO_11; clear HB; have HO_5 := n0_; have HO_8 := n1_; have HO_11 := n2_; have HB := n3_; clear n0_ n1_ n2_ n3_; (try clear hb); (try clear hb2); (try clear hk); (try clear hi)))
                            go_ret
                            exact ⟨by first | rfl | (simp [errW_none, errW_some] <;> rfl) | (simp [*, errW_none, errW_some] <;> rfl), by repeat (first | (with_reducible first | exact HB.out | apply below_alloc | apply pw_below_drewN | apply below_drew1) | exact HB.out)⟩
                          · rw [if_neg c53] at H
                            have c53b0 : (t241 == (wrap64 (x14_2 + t224))) = false := beq_eq_false_iff_ne.mpr c53
                            have c53b1 : (t241 != (wrap64 (x14_2 + t224))) = true := bne_iff_ne.mpr c53
                            obtain rfl := Option.some.inj H
                            go_wp2
                            go_ret
                            exact ⟨by first | rfl | (simp [errW_none, errW_some] <;> rfl) | (simp [*, errW_none, errW_some] <;> rfl), by repeat (first | (with_reducible first | exact HB.out | apply below_alloc | apply pw_below_drewN | apply below_drew1) | exact HB.out)⟩
                        · rw [if_neg c52] at H
                          have c52b0 : (t242 == t225) = false := beq_eq_false_iff_ne.mpr c52
                          have c52b1 : (t242 != t225) = true := bne_iff_ne.mpr c52
                          obtain rfl := Option.some.inj H
                          go_wp2
                          go_ret
                          exact ⟨by first | rfl | (simp [errW_none, errW_some] <;> rfl) | (simp [*, errW_none, errW_some] <;> rfl), by repeat (first | (with_reducible first | exact HB.out | apply below_alloc | apply pw_below_drewN | apply below_drew1) | exact HB.out)⟩
                    · rw [if_neg c27] at H
                      have c27b0 : (t220 == 0) = false := beq_eq_false_iff_ne.mpr c27
                      have c27b1 : (t220 != 0) = true := bne_iff_ne.mpr c27
                      by_cases c56 : t242 = t220
                      · rw [if_pos c56] at H
                        have c56b0 : (t242 == t220) = true := beq_iff_eq.mpr c56
                        have c56b1 : (t242 != t220) = false := bne_eq_false_iff_eq.mpr c56
                        clear c56
                        by_cases c57 : t241 = t219
                        · rw [if_pos c57] at H
                          have c57b0 : (t241 == t219) = true := beq_iff_eq.mpr c57
                          have c57b1 : (t241 != t219) = false := bne_eq_false_iff_eq.mpr c57
                          clear c57
                          replace H := Option.bind_eq_some_iff.mp H
                          obtain ⟨t247, A580, H⟩ := H
                          replace H : (some t247) = some r := H
                          have A58 := Aside0.mk A580
                          clear A580
                          obtain rfl := Option.some.inj H
                          go_wp2_with (first | (go_at_call 7; (with_reducible refine (murmurationlaw13_known.calls  t247 _ ?side1 A58.out).mono ?_); (case side1 => exact Gl.below HGL.out (by repeat (first | (with_reducible first | exact HB.out | apply below_alloc | apply pw_below_drewN | apply below_drew1) | exact HB.out))); rintro e w59 ⟨rfl, hb⟩; have n0_ := Aside0.mk (Kd.N_below (by (with_reducible repeat (first | apply Kd.N_alloc | apply Kd.N_drewN | apply Kd.N_drew)); exact HO_5.out) hb); have n1_ := Aside0.mk (Kd.N_below (by (with_reducible repeat (first | apply Kd.N_alloc | apply Kd.N_drewN | apply Kd.N_drew)); exact HO_8.out) hb); have n2_ := Aside0.mk (Kd.N_below (by (with_reducible repeat (first | apply Kd.N_alloc | apply Kd.N_drewN | apply Kd.N_drew)); exact HO_11.out) hb); have n3_ := Aside0.mk (below_step (by repeat (first | (with_reducible first | exact HB.out | apply below_alloc | apply pw_below_drewN | apply below_drew1) | exact HB.out)) hb); clear HO_5; clear HO_8; clear HO_11; clear HB; have HO_5 := n0_; have HO_8 := n1_; have HO_11 := n2_; have HB := n3_; clear n0_ n1_ n2_ n3_; (try clear hb); (try clear hb2); (try clear hk); (try clear hi)))
                          go_ret
                          exact ⟨by first | rfl | (simp [errW_none, errW_some] <;> rfl) | (simp [*, errW_none, errW_some] <;> rfl), by repeat (first | (with_reducible first | exact HB.out | apply below_alloc | apply pw_below_drewN | apply below_drew1) | exact HB.out)⟩
                        · rw [if_neg c57] at H
                          have c57b0 : (t241 == t219) = false := beq_eq_false_iff_ne.mpr c57
                          have c57b1 : (t241 != t219) = true := bne_iff_ne.mpr c57
                          obtain rfl := Option.some.inj H
                          go_wp2
                          go_ret
                          exact ⟨by first | rfl | (simp [errW_none, errW_some] <;> rfl) | (simp [*, errW_none, errW_some] <;> rfl), by repeat (first | (with_reducible first | exact HB.out | apply below_alloc | apply pw_below_drewN | apply below_drew1) | exact HB.out)⟩
                      · rw [if_neg c56] at H
                        have c56b0 : (t242 == t220) = false := beq_eq_false_iff_ne.mpr c56
                        have c56b1 : (t242 != t220) = true := bne_iff_ne.mpr c56
                        obtain rfl := Option.some.inj H
                        go_wp2
                        go_ret
                        exact ⟨by first | rfl | (simp [errW_none, errW_some] <;> rfl) | (simp [*, errW_none, errW_some] <;> rfl), by repeat (first | (with_reducible first | exact HB.out | apply below_alloc | apply pw_below_drewN | apply below_drew1) | exact HB.out)⟩
            · rw [if_neg c12] at H
              exact absurd H (by simp)
          · rw [if_neg c11] at H
            exact absurd H (by simp)
        · rw [if_neg c10] at H
          exact absurd H (by simp)

end Go.Proofs.YtpnghpmgdekmgaaDoor.Q

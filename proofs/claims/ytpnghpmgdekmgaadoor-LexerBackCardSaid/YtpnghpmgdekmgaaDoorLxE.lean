import Derived.Test.YtpnghpmgdekmgaaDoorLxD
import Derived.Test.YtpnghpmgdekmgaaDoorLxN
namespace Go.Proofs.YtpnghpmgdekmgaaDoor.Q
open Go.RowKit Go.Proofs.YtpnghpmgdekmgaaDoorW.PrintWords Go.Proofs.YtpnghpmgdekmgaaDoorW.PrintLast Go.Proofs.YtpnghpmgdekmgaaDoorW.PrintMore
set_option linter.unusedVariables false
set_option linter.unusedSimpArgs false

theorem checkN_same {n n' b1 b2 b3 c1 c2 c3 sz lo hi k : Nat} (h : Lib.checkN n b1 b2 b3 sz lo hi = some k) (hn : k ≤ n') (e1 : b1 = c1) (e2 : k < 3 ∨ b2 = c2) (e3 : k < 4 ∨ b3 = c3) : Lib.checkN n' c1 c2 c3 sz lo hi = some k ∧ k ≤ n := by
  subst e1
  unfold Lib.checkN at *
  by_cases h2 : sz = 2
  · rw [if_pos h2] at h ⊢
    by_cases hc : n < 2 ∨ b1 < lo ∨ hi < b1
    · rw [if_pos hc] at h; cases h
    · rw [if_neg hc] at h
      obtain rfl := Option.some.inj h
      rw [if_neg (by omega)]
      exact ⟨rfl, by omega⟩
  · rw [if_neg h2] at h ⊢
    by_cases h3 : sz = 3
    · rw [if_pos h3] at h ⊢
      by_cases hc : n < 3 ∨ b1 < lo ∨ hi < b1 ∨ b2 < 128 ∨ 191 < b2
      · rw [if_pos hc] at h; cases h
      · rw [if_neg hc] at h
        obtain rfl := Option.some.inj h
        rw [if_neg (by omega)]
        exact ⟨rfl, by omega⟩
    · rw [if_neg h3] at h ⊢
      by_cases h4 : sz = 4
      · rw [if_pos h4] at h ⊢
        by_cases hc : n < 4 ∨ b1 < lo ∨ hi < b1 ∨ b2 < 128 ∨ 191 < b2 ∨ b3 < 128 ∨ 191 < b3
        · rw [if_pos hc] at h; cases h
        · rw [if_neg hc] at h
          obtain rfl := Option.some.inj h
          rw [if_neg (by omega)]
          exact ⟨rfl, by omega⟩
      · rw [if_neg h4] at h; cases h
/-- A rune that decodes is UTF-8, whatever stands behind it. -/
theorem rune_valid (l : List UInt8) (hne : l ≠ []) (hok : ¬ ((Lib.decodeL l).1 = 65533 ∧ (Lib.decodeL l).2 = 1)) (t : List UInt8) :
    Lib.validD (l.take (Lib.decodeL l).2 ++ t) = Lib.validD t ∧ (Lib.decodeL l).2 ≤ l.length := by
  by_cases h128 : (l.getD 0 0).toNat < 128
  · cases l with
    | nil => exact absurd rfl hne
    | cons b r =>
      rw [Lib.decodeL_ascii b r h128]
      exact ⟨Lib.validD_cons b t h128, by simp⟩
  · have h0 : 128 ≤ (l.getD 0 0).toNat := by omega
    have hl : 0 < l.length := List.length_pos_iff.2 hne
    rw [Lib.decodeL_N] at hok ⊢
    rcases Lib.check_decode l.length (l.getD 0 0).toNat (l.getD 1 0).toNat (l.getD 2 0).toNat (l.getD 3 0).toNat hl h0 (l.getD 0 0).toNat_lt (l.getD 1 0).toNat_lt (l.getD 2 0).toNat_lt (l.getD 3 0).toNat_lt with ⟨hc, hd⟩ | ⟨k, hk, hc, hd⟩
    · rw [hd] at hok; exact absurd ⟨rfl, rfl⟩ hok
    · rw [hd]
      have hkn := (checkN_same (n' := k) hc (Nat.le_refl _) rfl (.inr rfl) (.inr rfl)).2
      refine ⟨?_, hkn⟩
      have hlen : (l.take k).length = k := by rw [List.length_take]; omega
      have hg : ∀ j, j < k → (l.take k ++ t).getD j 0 = l.getD j 0 := fun j hj => by
        rw [List.getD_eq_getElem?_getD, List.getD_eq_getElem?_getD, List.getElem?_append_left (by omega), List.getElem?_take_of_lt hj]
      have g0 := hg 0 (by omega)
      rw [Lib.validD_lead _ (by intro e; have e2 := congrArg List.length e; rw [List.length_append, hlen, List.length_nil] at e2; omega) (by rw [g0]; exact h0), g0]
      rw [(checkN_same (n' := (l.take k ++ t).length) (c1 := ((l.take k ++ t).getD 1 0).toNat) (c2 := ((l.take k ++ t).getD 2 0).toNat) (c3 := ((l.take k ++ t).getD 3 0).toNat) hc (by simp; omega) (by rw [hg 1 (by omega)]) (by
          by_cases h3 : k < 3
          · exact .inl h3
          · exact .inr (by rw [hg 2 (by omega)])) (by
          by_cases h4 : k < 4
          · exact .inl h4
          · exact .inr (by rw [hg 3 (by omega)]))).1]
      simp only
      congr 1
      rw [List.drop_append_of_le_length (by rw [hlen]; exact Nat.le_refl _), List.drop_eq_nil_of_le (by rw [hlen]; exact Nat.le_refl _), List.nil_append]

/-- What a word's text is good for. -/
structure Said (o : List Int) (n : Nat) (bs : List Int) : Prop where
  bytes : ∀ x ∈ o, 0 ≤ x ∧ x < 256 ∧ x ≠ 10
  len : o.length ≤ 2 * n
  val : ∀ t, Lib.validD (Lib.bytesOf o ++ t) = Lib.validD t
  run : ∀ (xs : List Int) (ws : List ByteArray) (rest : List Int), lineB 2 xs ws (o ++ rest) = lineB 2 (xs ++ bs) ws rest
theorem Said.nil : Said [] 0 [] := ⟨by simp, by simp, fun t => rfl, fun xs ws rest => by simp⟩
theorem bytesOf_app (p q : List Int) : Lib.bytesOf (p ++ q) = Lib.bytesOf p ++ Lib.bytesOf q := by unfold Lib.bytesOf; rw [List.map_append]
theorem Said.app {o1 o2 b1 b2 : List Int} {n1 n2 : Nat} (h1 : Said o1 n1 b1) (h2 : Said o2 n2 b2) : Said (o1 ++ o2) (n1 + n2) (b1 ++ b2) where
  bytes := fun x hx => by
    rcases List.mem_append.1 hx with hx | hx
    · exact h1.bytes x hx
    · exact h2.bytes x hx
  len := by rw [List.length_append]; have := h1.len; have := h2.len; omega
  val := fun t => by rw [bytesOf_app, List.append_assoc, h1.val, h2.val]
  run := fun xs ws rest => by rw [List.append_assoc, h1.run, h2.run, List.append_assoc]
theorem bytesOf_ints (l : List UInt8) : Lib.bytesOf (l.map (fun b => (b.toNat : Int))) = l := by
  unfold Lib.bytesOf
  rw [List.map_map]
  conv => rhs; rw [← List.map_id l]
  refine List.map_congr_left fun x _ => ?_
  simp
theorem ascii_enc (c : Int) (h0 : 0 ≤ c) (h : c < 128) : Lib.encodeRuneZ c = [c] := Lib.encodeRuneZ_one (by omega) (by omega)
theorem esc_run (c : Int) (h0 : 0 ≤ c) (h : c < 128) (o : List Int) (ho : runeOut c = some o) : Said o 1 [c] := by
  unfold runeOut at ho
  by_cases e10 : c = 10
  · subst e10
    obtain rfl := Option.some.inj ho
    refine ⟨by decide, by decide, fun t => ?_, fun xs ws rest => ?_⟩
    · rw [Lib.validD_ascii 2 _ (by simp [Lib.bytesOf])]; rfl
    · rfl
  · rw [if_neg e10] at ho
    by_cases e34 : c = 34
    · subst e34
      obtain rfl := Option.some.inj ho
      refine ⟨by decide, by decide, fun t => ?_, fun xs ws rest => ?_⟩
      · rw [Lib.validD_ascii 2 _ (by simp [Lib.bytesOf])]; rfl
      · rfl
    · rw [if_neg e34] at ho
      by_cases e92 : c = 92
      · subst e92
        obtain rfl := Option.some.inj ho
        refine ⟨by decide, by decide, fun t => ?_, fun xs ws rest => ?_⟩
        · rw [Lib.validD_ascii 2 _ (by simp [Lib.bytesOf])]; rfl
        · rfl
      · rw [if_neg e92] at ho
        by_cases e32 : c < 32
        · rw [if_pos e32] at ho; cases ho
        · rw [if_neg e32] at ho
          by_cases e127 : c = 127
          · rw [if_pos e127] at ho; cases ho
          · rw [if_neg e127, if_neg (by omega)] at ho
            rw [ascii_enc c h0 h] at ho
            obtain rfl := Option.some.inj ho
            refine ⟨fun x hx => ?_, by simp, fun t => ?_, fun xs ws rest => ?_⟩
            · obtain rfl : x = c := by simpa using hx
              omega
            · have hc : (UInt8.ofNat c.toNat).toNat < 128 := by
                have e : ∀ n : Fin 128, ((UInt8.ofNat n.val).toNat) = n.val := by decide +kernel
                have := e ⟨c.toNat, by omega⟩
                simp only at this
                omega
              exact Lib.validD_cons _ t hc
            · rw [List.singleton_append, lineB_cons]
              unfold readB
              rw [if_pos h]
              unfold readS withinS
              rw [if_pos (.inl rfl), if_neg (by decide), if_neg e34, if_neg e92, if_neg e32, if_neg e127, ascii_enc c h0 h]
              simp
theorem high_run (l : List UInt8) (hne : l ≠ []) (hok : ¬ ((Lib.decodeL l).1 = 65533 ∧ (Lib.decodeL l).2 = 1)) (hh : ∀ x ∈ (l.take (Lib.decodeL l).2).map (fun b => (b.toNat : Int)), 128 ≤ x) :
    Said ((l.take (Lib.decodeL l).2).map (fun b => (b.toNat : Int))) (Lib.decodeL l).2 ((l.take (Lib.decodeL l).2).map (fun b => (b.toNat : Int))) where
  bytes := fun x hx => by
    have := hh x hx
    obtain ⟨b, _, rfl⟩ := List.mem_map.1 hx
    have := b.toNat_lt
    omega
  len := by rw [List.length_map, List.length_take]; omega
  val := fun t => by rw [bytesOf_ints]; exact (rune_valid l hne hok t).1
  run := fun xs ws rest => by
    by_cases e : (l.take (Lib.decodeL l).2).map (fun b => (b.toNat : Int)) = []
    · rw [e]; simp
    · rw [lineB_high _ rest 2 xs ws hh e]; simp
theorem word_said (s : ByteArray) : ∀ (k pos : Nat) (acc r : List Int), wordOut s k pos acc = some r → pos ≤ s.size →
    ∃ o, r = acc ++ o ∧ Said o (s.size - pos) ((s.data.toList.drop pos).map (fun b => (b.toNat : Int)))
  | 0, _, _, _, h, _ => by cases h
  | k + 1, pos, acc, r, h, hp => by
    have hsz : s.data.toList.length = s.size := data_length s
    simp only [wordOut] at h
    by_cases hlt : pos < s.size
    · rw [if_pos hlt] at h
      cases ho : runeOut ((Utf8.decode s pos).1 : Int) with
      | none => rw [ho] at h; cases h
      | some o1 =>
        rw [ho] at h
        have hfit := decode_fits s pos hlt
        obtain ⟨o2, hr, h2⟩ := word_said s k _ _ r h hfit
        obtain ⟨l, hl⟩ : ∃ l, s.data.toList.drop pos = l := ⟨_, rfl⟩
        have hne : l ≠ [] := by
          intro e
          have := congrArg List.length (hl.trans e)
          rw [List.length_drop, hsz] at this
          simp at this
          omega
        have hdec : Utf8.decode s pos = Lib.decodeL l := by rw [← hl]; exact (Lib.decodeL_drop s pos).symm
        rw [hdec] at hfit ho h2
        have hnext : s.data.toList.drop (pos + (Lib.decodeL l).2) = l.drop (Lib.decodeL l).2 := by rw [← hl, List.drop_drop]
        rw [hnext] at h2
        have hsplit : l.map (fun b => (b.toNat : Int)) = (l.take (Lib.decodeL l).2).map (fun b => (b.toNat : Int)) ++ (l.drop (Lib.decodeL l).2).map (fun b => (b.toNat : Int)) := by rw [← List.map_append, List.take_append_drop]
        have hbad : ¬ ((Lib.decodeL l).1 = 65533 ∧ (Lib.decodeL l).2 = 1) := fun e => by
          rw [e.1] at ho
          have hz : runeOut ((65533 : Nat) : Int) = none := by decide
          rw [hz] at ho
          cases ho
        have h1 : Said o1 (Lib.decodeL l).2 ((l.take (Lib.decodeL l).2).map (fun b => (b.toNat : Int))) := by
          rcases enc_dec l hne hbad with ⟨e1, e2, e3⟩ | ⟨e1, e2, e3⟩
          · rw [e2] at ho
            have hx := esc_run ((l.getD 0 0).toNat : Int) (by omega) (by omega) o1 ho
            rw [e3]
            cases l with
            | nil => exact absurd rfl hne
            | cons b t => exact hx
          · have hhi := high_run l hne hbad e3
            have eo : o1 = Lib.encodeRuneZ ((Lib.decodeL l).1 : Int) := by
              unfold runeOut at ho
              rw [if_neg (by omega), if_neg (by omega), if_neg (by omega), if_neg (by omega), if_neg (by omega)] at ho
              by_cases e5 : ((Lib.decodeL l).1 : Int) = 65533
              · rw [if_pos e5] at ho; cases ho
              · rw [if_neg e5] at ho; exact (Option.some.inj ho).symm
            rw [eo, e2]
            exact hhi
        refine ⟨o1 ++ o2, by rw [hr, List.append_assoc], ?_⟩
        have h12 := h1.app h2
        rw [hl, hsplit]
        have en : s.size - pos = (Lib.decodeL l).2 + (s.size - (pos + (Lib.decodeL l).2)) := by omega
        rw [en]
        exact h12
    · rw [if_neg hlt] at h
      obtain rfl := Option.some.inj h
      have : s.data.toList.drop pos = [] := List.drop_eq_nil_of_le (by omega)
      rw [this, show s.size - pos = 0 by omega]
      exact ⟨[], by simp, Said.nil⟩
/-- What the text of words is good for. -/
structure SaidAll (o : List Int) (ws : List ByteArray) : Prop where
  bytes : ∀ x ∈ o, 0 ≤ x ∧ x < 256 ∧ x ≠ 10
  len : o.length ≤ 323 * ws.length
  val : ∀ t, Lib.validD (Lib.bytesOf o ++ t) = Lib.validD t
  run : ∀ (st : Int) (w0 : List ByteArray), st = 0 ∨ st = 4 → lineB st [] w0 o = some (if ws = [] then st else 4, [], w0 ++ ws)
theorem strOf_data (s : ByteArray) : strOfNums (s.data.toList.map (fun b => (b.toNat : Int))) = s := by
  show (⟨(Lib.bytesOf (s.data.toList.map (fun b => (b.toNat : Int)))).toArray⟩ : ByteArray) = s
  rw [bytesOf_ints]
theorem back_said : ∀ (ws : List ByteArray) (acc r : List Int), backGo ws acc = some r → ∃ o, r = acc ++ o ∧ SaidAll o ws
  | [], acc, r, h => by
    obtain rfl := Option.some.inj h
    exact ⟨[], by simp, ⟨by simp, by simp, fun t => rfl, fun st w0 _ => by simp [lineB]⟩⟩
  | s :: ws, acc, r, h => by
    simp only [backGo] at h
    by_cases hl : 160 < s.size
    · rw [if_pos hl] at h; cases h
    · rw [if_neg hl] at h
      cases hw : wordOut s (s.size + 1) 0 (acc ++ [32, 34]) with
      | none => rw [hw] at h; cases h
      | some a =>
        rw [hw] at h
        obtain ⟨o1, rfl, h1⟩ := word_said s _ _ _ _ hw (Nat.zero_le _)
        obtain ⟨o2, rfl, h2⟩ := back_said ws _ r h
        rw [List.drop_zero, Nat.sub_zero] at h1
        refine ⟨32 :: 34 :: (o1 ++ 34 :: o2), by simp, ⟨fun x hx => ?_, ?_, fun t => ?_, fun st w0 hst => ?_⟩⟩
        · rcases List.mem_cons.1 hx with rfl | hx
          · omega
          rcases List.mem_cons.1 hx with rfl | hx
          · omega
          rcases List.mem_append.1 hx with hx | hx
          · exact h1.bytes x hx
          rcases List.mem_cons.1 hx with rfl | hx
          · omega
          exact h2.bytes x hx
        · have := h1.len
          have := h2.len
          simp
          omega
        · have e : Lib.bytesOf (32 :: 34 :: (o1 ++ 34 :: o2)) ++ t = 32 :: 34 :: (Lib.bytesOf o1 ++ (34 :: (Lib.bytesOf o2 ++ t))) := by
            show 32 :: 34 :: (Lib.bytesOf (o1 ++ 34 :: o2)) ++ t = _
            rw [bytesOf_app]
            simp [Lib.bytesOf]
          rw [e, Lib.validD_cons 32 _ (by decide), Lib.validD_cons 34 _ (by decide), h1.val, Lib.validD_cons 34 _ (by decide), h2.val]
        · have e1 : lineB st [] w0 (32 :: 34 :: (o1 ++ 34 :: o2)) = lineB 2 [] w0 (o1 ++ 34 :: o2) := by
            rcases hst with rfl | rfl <;> rfl
          rw [e1, h1.run, List.nil_append]
          have e2 : lineB 2 (s.data.toList.map (fun b => (b.toNat : Int))) w0 (34 :: o2) = lineB 4 [] (w0 ++ [s]) o2 := by
            rw [lineB_cons]
            show lineB 4 [] (w0 ++ [strOfNums (s.data.toList.map (fun b => (b.toNat : Int)))]) o2 = _
            rw [strOf_data]
          rw [e2, h2.run 4 _ (.inr rfl)]
          simp
theorem ix10_none : ∀ {l : List Int}, (∀ x ∈ l, x ≠ 10) → ix10 l = none
  | [], _ => rfl
  | x :: xs, h => by
    simp only [ix10]
    rw [if_neg (h x (by simp)), ix10_none (fun y hy => h y (List.mem_cons_of_mem _ hy))]
    rfl
theorem back_lines (ws : List ByteArray) (b : List Int) (hne : ws ≠ []) (hl : ws.length ≤ 40) (h : backGo ws [] = some b) : linesOf b = ([⟨1, ws⟩], 0, 0) ∧ (∀ x ∈ b, 0 ≤ x ∧ x < 256) ∧ b.length ≤ 20000 := by
  obtain ⟨o, e, hs⟩ := back_said ws [] b h
  rw [List.nil_append] at e
  subst b
  have hlen : o.length ≤ 20000 := by have := hs.len; omega
  have hb : ∀ x ∈ o, 0 ≤ x ∧ x < 256 := fun x hx => ⟨(hs.bytes x hx).1, (hs.bytes x hx).2.1⟩
  refine ⟨?_, hb, hlen⟩
  unfold linesOf
  rw [if_neg (by omega), pieces_none (ix10_none fun x hx => (hs.bytes x hx).2.2)]
  have hv : Lib.validD (strOfNums o).data.toList = true := by
    show Lib.validD (Lib.bytesOf o) = true
    have := hs.val []
    rw [List.append_nil] at this
    rw [this]
    rfl
  have e : lineOf (strOfNums o) = (ws, true) := by
    rw [lineOf_B o hb hv, hs.run 0 [] (.inl rfl), if_neg hne]
    rfl
  rw [lg_yes (by rw [e]; exact ⟨rfl, hv⟩), e, if_neg hne]
  rfl
end Go.Proofs.YtpnghpmgdekmgaaDoor.Q

import Derived.Test.YtpnghpmgdekmgaaDoorLxC
import Derived.Test.YtpnghpmgdekmgaaDoorLxT
import Derived.Test.YtpnghpmgdekmgaaDoorQf4
namespace Go.Proofs.YtpnghpmgdekmgaaDoor.Q
open Go.RowKit Go.Proofs.YtpnghpmgdekmgaaDoorW.PrintWords Go.Proofs.YtpnghpmgdekmgaaDoorW.PrintLast Go.Proofs.YtpnghpmgdekmgaaDoorW.PrintMore
set_option linter.unusedVariables false
set_option linter.unusedSimpArgs false

theorem pieces_cat : ∀ (a b : List Int), pieces (a ++ 10 :: b) = pieces a ++ pieces b
  | [], b => rfl
  | x :: a, b => by
    have ih := pieces_cat a b
    rw [List.cons_append]
    simp only [pieces]
    by_cases h : x = 10
    · rw [if_pos h, if_pos h, ih]; rfl
    · rw [if_neg h, if_neg h, ih]
      cases hp : pieces a with
      | nil => exact absurd hp (pieces_ne a)
      | cons p ps => rfl
/-- What the law lays behind a line, a 10 apart. -/
def tailT : List Int := [32, 9, 32, 35, 32, 34, 120]
def wideOf : List Int → List Int
  | [] => []
  | x :: xs => (if x = 10 then tailT ++ 10 :: ([9, 32] ++ [10]) else [x]) ++ wideOf xs
def widen : List (List Int) → List (List Int)
  | [] => []
  | [p] => [p]
  | p :: q :: ps => (p ++ tailT) :: [9, 32] :: widen (q :: ps)
theorem pieces_wide : ∀ (b : List Int), pieces (wideOf b) = widen (pieces b)
  | [] => rfl
  | x :: b => by
    have ih := pieces_wide b
    have hne := pieces_ne b
    simp only [wideOf]
    by_cases h : x = 10
    · subst h
      rw [if_pos rfl, show (tailT ++ 10 :: ([9, 32] ++ [10])) ++ wideOf b = tailT ++ 10 :: ([9, 32] ++ 10 :: wideOf b) by simp, pieces_cat, pieces_cat, ih]
      have e1 : pieces tailT = [tailT] := by decide
      have e2 : pieces [9, 32] = [[9, 32]] := by decide
      rw [e1, e2]
      simp only [pieces, if_true]
      cases hp : pieces b with
      | nil => exact absurd hp hne
      | cons q qs => rfl
    · rw [if_neg h, List.singleton_append]
      simp only [pieces]
      rw [if_neg h, if_neg h, ih]
      cases hp : pieces b with
      | nil => exact absurd hp hne
      | cons q qs =>
        cases qs with
        | nil => rfl
        | cons r rs => rfl

theorem utfOk_same {n len len' b0 b1 b2 b3 c1 c2 c3 : Nat} (h : utfOk n len b0 b1 b2 b3) (hn : 2 ≤ n) (hl : len ≤ len') (e1 : b1 = c1) (e2 : n < 3 ∨ b2 = c2) (e3 : n < 4 ∨ b3 = c3) : utfOk n len' b0 c1 c2 c3 := by
  subst e1
  unfold utfOk at *
  omega
theorem validD_append (t : List UInt8) : ∀ (m : Nat) (l : List UInt8), l.length ≤ m → Lib.validD l = true → Lib.validD (l ++ t) = Lib.validD t
  | _, [], _, _ => rfl
  | 0, b :: l, hm, _ => by simp at hm
  | m + 1, b :: l, hm, hv => by
    by_cases h128 : b.toNat < 128
    · rw [Lib.validD_cons b l h128] at hv
      rw [List.cons_append, Lib.validD_cons b _ h128]
      exact validD_append t m l (by simp at hm; omega) hv
    · obtain ⟨L, hL⟩ : ∃ L, b :: l = L := ⟨_, rfl⟩
      have hne : L ≠ [] := by rw [← hL]; simp
      have hb0 : (L.getD 0 0) = b := by rw [← hL]; rfl
      rw [hL] at hv hm ⊢
      have h0 : 128 ≤ (L.getD 0 0).toNat := by rw [hb0]; omega
      have hgood : 192 ≤ (L.getD 0 0).toNat ∧ utfOk (leadLen (L.getD 0 0).toNat) L.length (L.getD 0 0).toNat (L.getD 1 0).toNat (L.getD 2 0).toNat (L.getD 3 0).toNat := by
        by_cases h : 192 ≤ (L.getD 0 0).toNat ∧ utfOk (leadLen (L.getD 0 0).toNat) L.length (L.getD 0 0).toNat (L.getD 1 0).toNat (L.getD 2 0).toNat (L.getD 3 0).toNat
        · exact h
        · rw [validD_bad L hne h0 h] at hv; cases hv
      have hn : 2 ≤ leadLen (L.getD 0 0).toNat ∧ leadLen (L.getD 0 0).toNat ≤ 4 := by
        unfold leadLen
        have := hgood.1
        (repeat' split) <;> omega
      have hlen : leadLen (L.getD 0 0).toNat ≤ L.length := hgood.2.1
      rw [validD_good L hne h0 hgood.1 hgood.2] at hv
      have hg : ∀ j, j < leadLen (L.getD 0 0).toNat → (L ++ t).getD j 0 = L.getD j 0 := fun j hj => by
        rw [List.getD_eq_getElem?_getD, List.getD_eq_getElem?_getD, List.getElem?_append_left (by omega)]
      have g0 := hg 0 (by omega)
      have hok : utfOk (leadLen (L.getD 0 0).toNat) (L ++ t).length (L.getD 0 0).toNat ((L ++ t).getD 1 0).toNat ((L ++ t).getD 2 0).toNat ((L ++ t).getD 3 0).toNat := by
        refine utfOk_same hgood.2 hn.1 (by simp) (by rw [hg 1 (by omega)]) ?_ ?_
        · by_cases h3 : leadLen (L.getD 0 0).toNat < 3
          · exact .inl h3
          · exact .inr (by rw [hg 2 (by omega)])
        · by_cases h4 : leadLen (L.getD 0 0).toNat < 4
          · exact .inl h4
          · exact .inr (by rw [hg 3 (by omega)])
      rw [validD_good (L ++ t) (by simp [hne]) (by rw [g0]; exact h0) (by rw [g0]; exact hgood.1) (by rw [g0]; exact hok), g0, List.drop_append_of_le_length hlen]
      exact validD_append t m (L.drop (leadLen (L.getD 0 0).toNat)) (by rw [List.length_drop]; omega) hv
theorem tail_st (st : Int) (xs : List Int) (ws : List ByteArray) (h : (lineEnd (some (st, xs, ws))).2 = true) : lineEnd (lineB st xs ws tailT) = lineEnd (some (st, xs, ws)) := by
  by_cases h1 : st = 1
  · subst h1; rfl
  · simp only [lineEnd] at h
    rw [if_neg h1] at h
    have := of_decide_eq_true h
    rcases this with rfl | rfl <;> rfl
theorem lineB_tail : ∀ (p : List Int) (st : Int) (xs : List Int) (ws : List ByteArray), (lineEnd (lineB st xs ws p)).2 = true → lineEnd (lineB st xs ws (p ++ tailT)) = lineEnd (lineB st xs ws p)
  | [], st, xs, ws, h => tail_st st xs ws h
  | b :: p, st, xs, ws, h => by
    rw [List.cons_append, lineB_cons, lineB_cons]
    rw [lineB_cons] at h
    cases hr : readB st xs ws b with
    | none => rfl
    | some r =>
      rw [hr] at h
      simp only at h ⊢
      split
      · rename_i hm
        rw [if_pos hm] at h
        exact lineB_tail p _ _ _ h
      · rfl
theorem bytes_append (p q : List Int) : (strOfNums (p ++ q)).data.toList = (strOfNums p).data.toList ++ (strOfNums q).data.toList := by
  show Lib.bytesOf (p ++ q) = Lib.bytesOf p ++ Lib.bytesOf q
  unfold Lib.bytesOf
  rw [List.map_append]
theorem tail_line (p : List Int) (hb : ∀ x ∈ p, 0 ≤ x ∧ x < 256) (h : (lineOf (strOfNums p)).2 = true) (hv : Lib.validD (strOfNums p).data.toList = true) :
    lineOf (strOfNums (p ++ tailT)) = lineOf (strOfNums p) ∧ Lib.validD (strOfNums (p ++ tailT)).data.toList = true := by
  have hv2 : Lib.validD (strOfNums (p ++ tailT)).data.toList = true := by
    rw [bytes_append, validD_append _ _ _ (Nat.le_refl _) hv]
    decide +kernel
  refine ⟨?_, hv2⟩
  rw [lineOf_B p hb hv] at h ⊢
  rw [lineOf_B (p ++ tailT) (fun x hx => by
    rcases List.mem_append.1 hx with hx | hx
    · exact hb x hx
    · have ht : ∀ y ∈ tailT, 0 ≤ y ∧ y < 256 := by decide
      exact ht x hx) hv2]
  exact lineB_tail p 0 [] [] h

def dbl (xs : List S32) : List S32 := xs.map fun x => ⟨2 * x.f0 - 1, x.f1⟩
theorem blank_line : (lineOf (strOfNums [9, 32])).1 = [] ∧ (lineOf (strOfNums [9, 32])).2 = true ∧ Lib.validD (strOfNums [9, 32]).data.toList = true := by
  have h : lineOf (strOfNums [9, 32]) = ([], true) := by kernel_rfl
  rw [h]
  exact ⟨rfl, rfl, by decide +kernel⟩
theorem dbl_snoc (i : Nat) (acc : List S32) (ws : List ByteArray) : dbl (acc ++ [⟨(i : Int) + 1, ws⟩]) = dbl acc ++ [⟨((2 * i : Nat) : Int) + 1, ws⟩] := by
  unfold dbl
  rw [List.map_append]
  simp
  omega
theorem linesGo_wide : ∀ (ps : List (List Int)) (i : Nat) (acc : List S32), (∀ p ∈ ps, ∀ x ∈ p, 0 ≤ x ∧ x < 256) → (linesGo i ps acc).2.2 = 0 →
    linesGo (2 * i) (widen ps) (dbl acc) = (dbl (linesGo i ps acc).1, 0, 0)
  | [], i, acc, _, _ => rfl
  | [p], i, acc, hb, h => by
    by_cases hc : (lineOf (strOfNums p)).2 = true ∧ Lib.validD (strOfNums p).data.toList = true
    · rw [widen, lg_yes hc, lg_yes hc]
      by_cases hw : (lineOf (strOfNums p)).1 = []
      · rw [if_pos hw, if_pos hw]; rfl
      · rw [if_neg hw, if_neg hw, ← dbl_snoc]; rfl
    · rw [lg_no hc] at h; simp at h
  | p :: q :: ps, i, acc, hb, h => by
    have ih := linesGo_wide (q :: ps) (i + 1)
    rw [widen]
    by_cases hc : (lineOf (strOfNums p)).2 = true ∧ Lib.validD (strOfNums p).data.toList = true
    · rw [lg_yes hc] at h ⊢
      obtain ⟨t1, t2⟩ := tail_line p (hb p (List.mem_cons_self ..)) hc.1 hc.2
      rw [lg_yes (by rw [t1]; exact ⟨hc.1, t2⟩), t1, lg_yes ⟨blank_line.2.1, blank_line.2.2⟩, if_pos blank_line.1, show 2 * i + 1 + 1 = 2 * (i + 1) by omega]
      by_cases hw : (lineOf (strOfNums p)).1 = []
      · rw [if_pos hw] at h ⊢
        rw [if_pos hw]
        exact ih acc (fun p' hp' => hb p' (List.mem_cons_of_mem _ hp')) h
      · rw [if_neg hw] at h ⊢
        rw [if_neg hw, ← dbl_snoc]
        exact ih _ (fun p' hp' => hb p' (List.mem_cons_of_mem _ hp')) h
    · rw [lg_no hc] at h; simp at h

theorem wide_cons (c : Int) (r : List Int) : wideOf (c :: r) = (if c = 10 then tailT ++ 10 :: ([9, 32] ++ [10]) else [c]) ++ wideOf r := rfl
theorem wide_len : ∀ (l : List Int), (wideOf l).length ≤ 11 * l.length
  | [] => by simp [wideOf]
  | c :: r => by
    have := wide_len r
    rw [wide_cons]
    split <;> simp [tailT] <;> omega
theorem wide_bytes : ∀ (l : List Int), (∀ x ∈ l, 0 ≤ x ∧ x < 256) → ∀ x ∈ wideOf l, 0 ≤ x ∧ x < 256
  | [], _, x, hx => by cases hx
  | c :: r, hb, x, hx => by
    rw [wide_cons] at hx
    rcases List.mem_append.1 hx with hx | hx
    · split at hx
      · have h : ∀ y ∈ tailT ++ 10 :: ([9, 32] ++ [10]), 0 ≤ y ∧ y < 256 := by decide
        exact h x hx
      · obtain rfl := List.mem_singleton.1 hx
        exact hb _ (List.mem_cons_self ..)
    · exact wide_bytes r (fun y hy => hb y (List.mem_cons_of_mem _ hy)) x hx
/-- The law's loop lays the wide file. -/
theorem plain_loop (l : List Int) (hl : l.length ≤ 3000) (x3 : List S32) : ∀ (m k i : Nat) (acc : List Int), l.length - i = m → i ≤ l.length → acc.length ≤ 11 * i →
    murmurationlaw13_LexerPlain.l0 (k + m) l x3 acc (l.length : Int) (i : Int) = murmurationlaw13_LexerPlain.l0 k l x3 (acc ++ wideOf (l.drop i)) (l.length : Int) (l.length : Int)
  | 0, k, i, acc, hm, hi, ha => by
    have : i = l.length := by omega
    subst this
    rw [List.drop_length]
    show _ = murmurationlaw13_LexerPlain.l0 k l x3 (acc ++ []) _ _
    rw [List.append_nil]
    rfl
  | m + 1, k, i, acc, hm, hi, ha => by
    have hlt : i < l.length := by omega
    have hd : l.drop i = l[i] :: l.drop (i + 1) := List.drop_eq_getElem_cons hlt
    obtain ⟨h1, h2, h3, h4, h5⟩ := at_drop hd
    rw [show k + (m + 1) = (k + m) + 1 by omega, murmurationlaw13_LexerPlain.l0, if_pos (by omega), if_pos (by omega), if_pos (by omega), h2, wrapN i (by omega), hd, wide_cons]
    have e : bytesOf (⟨#[32, 9, 32, 35, 32, 34, 120, 10, 9, 32]⟩ : ByteArray) = [32, 9, 32, 35, 32, 34, 120, 10, 9, 32] := by decide +kernel
    by_cases h : l[i] = 10
    · rw [if_pos h, if_pos (by omega), e]
      simp only [Option.bind_some]
      rw [if_pos (by simp; omega), if_pos h, plain_loop l hl x3 m k (i + 1) _ (by omega) (by omega) (by simp; omega), h]
      congr 1
      simp [tailT]
    · rw [if_neg h, if_pos (by omega), if_neg h, plain_loop l hl x3 m k (i + 1) _ (by omega) (by omega) (by simp; omega)]
      congr 1
      simp

theorem wrapY (x : Int) (h0 : -1000000 ≤ x) (h1 : x ≤ 1000000) : wrap64 x = x := by
  unfold wrap64; omega
theorem nums_go : ∀ (ps : List (List Int)) (i : Nat) (acc : List S32) (B : Int), (i : Int) + ps.length ≤ B → (∀ x ∈ acc, 0 ≤ x.f0 ∧ x.f0 ≤ B) → ∀ x ∈ (linesGo i ps acc).1, 0 ≤ x.f0 ∧ x.f0 ≤ B
  | [], i, acc, B, _, ha => ha
  | p :: ps, i, acc, B, hB, ha => by
    by_cases h : (lineOf (strOfNums p)).2 = true ∧ Lib.validD (strOfNums p).data.toList = true
    · rw [lg_yes h]
      refine nums_go ps (i + 1) _ B (by simp at hB ⊢; omega) ?_
      split
      · exact ha
      · intro x hx
        rcases List.mem_append.1 hx with hx | hx
        · exact ha x hx
        · obtain rfl := List.mem_singleton.1 hx
          simp at hB ⊢
          omega
    · rw [lg_no h]
      intro x hx; cases hx
/-- The law's comparing loop. -/
theorem plain_same (xs : List S32) (hx : xs.length ≤ 20001) (hn : ∀ x ∈ xs, 0 ≤ x.f0 ∧ x.f0 ≤ 3001) (hw : ∀ x ∈ xs, x.f1.length ≤ 20002) : ∀ (m k i : Nat), xs.length - i = m → i ≤ xs.length → 30000 + m + 1 ≤ k →
    murmurationlaw13_LexerPlain.l1 k xs (dbl xs) (xs.length : Int) (i : Int) = some true
  | 0, k, i, hm, hi, hk => by
    obtain ⟨k, rfl⟩ : ∃ k1, k = k1 + 1 := ⟨k - 1, by omega⟩
    rw [murmurationlaw13_LexerPlain.l1, if_neg (by omega)]
    rfl
  | m + 1, k, i, hm, hi, hk => by
    have hlt : i < xs.length := by omega
    obtain ⟨k, rfl⟩ : ∃ k1, k = k1 + 1 := ⟨k - 1, by omega⟩
    have hdl : (dbl xs).length = xs.length := by simp [dbl]
    have r1 : rd_T32 xs (i : Int) = xs[i] := by
      unfold rd_T32
      rw [Int.toNat_natCast, List.getD_eq_getElem?_getD, List.getElem?_eq_getElem hlt]; rfl
    have r2 : rd_T32 (dbl xs) (i : Int) = ⟨2 * xs[i].f0 - 1, xs[i].f1⟩ := by
      unfold rd_T32 dbl
      rw [Int.toNat_natCast, List.getD_eq_getElem?_getD, List.getElem?_map, List.getElem?_eq_getElem hlt]; rfl
    have h1 := hn xs[i] (List.getElem_mem hlt)
    have h2 := hw xs[i] (List.getElem_mem hlt)
    have hws : murmurationref13_Words.f k xs[i].f1 xs[i].f1 = some true := by
      unfold murmurationref13_Words.f
      rw [if_pos rfl]
      exact words_self _ (by omega) xs[i].f1.length k 0 (by omega) (by omega)
    rw [murmurationlaw13_LexerPlain.l1, if_pos (by omega), if_pos (by omega), if_pos (by omega), if_pos (by omega), r1, r2, wrapY (2 * xs[i].f0) (by omega) (by omega), wrapY _ (by omega) (by omega), if_pos rfl, hws]
    simp only [Option.bind_some, if_true]
    rw [wrapN i (by omega)]
    exact plain_same xs hx hn hw m k (i + 1) (by omega) (by omega) (by omega)
/-- LexerPlain, in plain Lean. -/
theorem law_plain (l : List Int) (hb : ∀ x ∈ l, 0 ≤ x ∧ x < 256) : murmurationlaw13_LexerPlain.f 2000000 l = some true := by
  have hk : murmurationlaw13_known.f = some true := rfl
  unfold murmurationlaw13_LexerPlain.f
  by_cases h3 : (l.length : Int) > 3000
  · rw [if_pos h3, hk]; rfl
  · rw [if_neg h3]
    have fl : lexer_Lines.f l = some (linesOf l) := by unfold lexer_Lines.f; rw [if_pos hb]
    rw [fl]
    simp only [Option.bind_some]
    by_cases e0 : (linesOf l).2.2 = 0
    · rw [if_pos e0]
      have hlp := plain_loop l (by omega) (linesOf l).1 l.length (2000000 - l.length) 0 [] (by omega) (by omega) (by simp)
      rw [show 2000000 - l.length + l.length = 2000000 by omega, List.drop_zero, List.nil_append, show ((0 : Nat) : Int) = 0 from rfl] at hlp
      rw [hlp]
      obtain ⟨K, hK⟩ : ∃ K, 2000000 - l.length = K + 1 + 1 := ⟨1999998 - l.length, by omega⟩
      rw [hK, murmurationlaw13_LexerPlain.l0, if_neg (by omega)]
      by_cases hlong : ((wideOf l).length : Int) > 20000
      · rw [if_pos hlong, hk]; rfl
      · rw [if_neg hlong]
        have fw : lexer_Lines.f (wideOf l) = some (linesOf (wideOf l)) := by unfold lexer_Lines.f; rw [if_pos (wide_bytes l hb)]
        have hl0 : linesOf l = linesGo 0 (pieces l) [] := by unfold linesOf; rw [if_neg (by omega)]
        have hw : linesOf (wideOf l) = (dbl (linesOf l).1, 0, 0) := by
          rw [hl0] at e0 ⊢
          have := linesGo_wide (pieces l) 0 [] (fun p hp x hx => hb x ((pieces_mem hp).2 x hx)) e0
          unfold linesOf
          rw [if_neg (by omega), pieces_wide]
          exact this
        rw [fw, hw]
        simp only [Option.bind_some, if_true]
        obtain ⟨s1, s2⟩ := linesOf_size l
        have hlen : (dbl (linesOf l).1).length = (linesOf l).1.length := by simp [dbl]
        rw [hlen, show (((linesOf l).1.length : Int) != ((linesOf l).1.length : Int)) = false by simp, murmurationlaw13_LexerPlain.j1, if_neg (by decide)]
        have hnum : ∀ x ∈ (linesOf l).1, 0 ≤ x.f0 ∧ x.f0 ≤ 3001 := by
          rw [hl0]
          refine nums_go (pieces l) 0 [] 3001 ?_ (fun x hx => by cases hx)
          have := pieces_len_le l
          simp
          omega
        exact plain_same (linesOf l).1 s1 hnum s2 (linesOf l).1.length K 0 (by omega) (by omega) (by omega)
    · rw [if_neg e0, hk]; rfl
end Go.Proofs.YtpnghpmgdekmgaaDoor.Q

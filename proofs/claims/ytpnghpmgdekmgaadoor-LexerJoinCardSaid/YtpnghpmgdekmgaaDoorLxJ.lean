import Derived.Test.YtpnghpmgdekmgaaDoorLxC
import Derived.Test.YtpnghpmgdekmgaaDoorQf6
namespace Go.Proofs.YtpnghpmgdekmgaaDoor.Q
open Go.RowKit Go.Proofs.YtpnghpmgdekmgaaDoorW.PrintWords Go.Proofs.YtpnghpmgdekmgaaDoorW.PrintLast Go.Proofs.YtpnghpmgdekmgaaDoorW.PrintMore
set_option linter.unusedVariables false
set_option linter.unusedSimpArgs false

theorem pieces_join : ∀ (a b : List Int), pieces (a ++ 10 :: b) = pieces a ++ pieces b
  | [], b => rfl
  | x :: a, b => by
    have ih := pieces_join a b
    rw [List.cons_append]
    simp only [pieces]
    by_cases h : x = 10
    · rw [if_pos h, if_pos h, ih]; rfl
    · rw [if_neg h, if_neg h, ih]
      cases hp : pieces a with
      | nil => exact absurd hp (pieces_ne a)
      | cons p ps => rfl
/-- The numbers of lines, moved. -/
def moved (n : Nat) (xs : List S32) : List S32 := xs.map fun x => ⟨x.f0 + (n : Int), x.f1⟩
/-- What lines come to, seen from a later number and with lines ahead. -/
theorem linesGo_shift (n : Nat) : ∀ (ps : List (List Int)) (i : Nat) (pre acc : List S32),
    linesGo (i + n) ps (pre ++ moved n acc) = (if (linesGo i ps acc).2.2 = 0 then (pre ++ moved n (linesGo i ps acc).1, 0, 0) else ([], (linesGo i ps acc).2.1 + (n : Int), 5)) ∧ ((linesGo i ps acc).2.2 = 0 ∨ (linesGo i ps acc).2.2 = 5)
  | [], i, pre, acc => ⟨rfl, Or.inl rfl⟩
  | p :: ps, i, pre, acc => by
    by_cases h : (lineOf (strOfNums p)).2 = true ∧ Lib.validD (strOfNums p).data.toList = true
    · rw [lg_yes h, lg_yes h]
      have ih := linesGo_shift n ps (i + 1) pre
      rw [show i + n + 1 = i + 1 + n by omega]
      by_cases hw : (lineOf (strOfNums p)).1 = []
      · rw [if_pos hw, if_pos hw]
        exact ih acc
      · rw [if_neg hw, if_neg hw]
        have := ih (acc ++ [⟨(i : Int) + 1, (lineOf (strOfNums p)).1⟩])
        have e : pre ++ moved n (acc ++ [⟨(i : Int) + 1, (lineOf (strOfNums p)).1⟩]) = pre ++ moved n acc ++ [⟨((i + n : Nat) : Int) + 1, (lineOf (strOfNums p)).1⟩] := by
          unfold moved
          rw [List.map_append, List.append_assoc]
          simp
          omega
        rw [e] at this
        exact this
    · rw [lg_no h, lg_no h]
      refine ⟨?_, Or.inr rfl⟩
      rw [if_neg (by simp)]
      simp
      omega
theorem linesGo_append : ∀ (ps qs : List (List Int)) (i : Nat) (acc : List S32),
    linesGo i (ps ++ qs) acc = if (linesGo i ps acc).2.2 = 0 then linesGo (i + ps.length) qs (linesGo i ps acc).1 else linesGo i ps acc
  | [], qs, i, acc => rfl
  | p :: ps, qs, i, acc => by
    rw [List.cons_append]
    by_cases h : (lineOf (strOfNums p)).2 = true ∧ Lib.validD (strOfNums p).data.toList = true
    · rw [lg_yes h, lg_yes h, linesGo_append ps qs (i + 1), List.length_cons, show i + (ps.length + 1) = i + 1 + ps.length by omega]
    · rw [lg_no h, lg_no h, if_neg (by simp)]
theorem linesGo_ok : ∀ (ps : List (List Int)) (i : Nat) (acc : List S32), ((linesGo i ps acc).2.2 = 0 → (linesGo i ps acc).2.1 = 0) ∧ ((linesGo i ps acc).2.2 ≠ 0 → (linesGo i ps acc).2.2 = 5 ∧ 1 ≤ (linesGo i ps acc).2.1 ∧ (linesGo i ps acc).2.1 ≤ i + ps.length)
  | [], i, acc => ⟨fun _ => rfl, fun h => absurd rfl h⟩
  | p :: ps, i, acc => by
    by_cases h : (lineOf (strOfNums p)).2 = true ∧ Lib.validD (strOfNums p).data.toList = true
    · rw [lg_yes h]
      obtain ⟨h1, h2⟩ := linesGo_ok ps (i + 1) (if (lineOf (strOfNums p)).1 = [] then acc else acc ++ [⟨(i : Int) + 1, (lineOf (strOfNums p)).1⟩])
      refine ⟨h1, fun h => ?_⟩
      obtain ⟨h3, h4, h5⟩ := h2 h
      exact ⟨h3, h4, by simp at h5 ⊢; omega⟩
    · rw [lg_no h]
      exact ⟨fun h => (by simp at h), fun _ => ⟨rfl, by show (1 : Int) ≤ (i : Int) + 1; omega, by show (i : Int) + 1 ≤ (i : Int) + ((p :: ps).length : Nat); simp; omega⟩⟩
/-- Two files, one behind the other. -/
theorem lines_join (a b : List Int) (ha : a.length ≤ 3000) (hb : b.length ≤ 3000) :
    linesOf (a ++ [10] ++ b) = if (linesOf a).2.2 = 0 then (if (linesOf b).2.2 = 0 then ((linesOf a).1 ++ moved (pieces a).length (linesOf b).1, 0, 0) else ([], (linesOf b).2.1 + ((pieces a).length : Int), 5)) else linesOf a := by
  have e : a ++ [10] ++ b = a ++ 10 :: b := by simp
  rw [e]
  unfold linesOf
  rw [if_neg (show ¬ (20000 < (a ++ 10 :: b).length) by simp; omega), if_neg (show ¬ (20000 < a.length) by omega), if_neg (show ¬ (20000 < b.length) by omega), pieces_join, linesGo_append]
  split
  · rename_i h
    have := (linesGo_shift (pieces a).length (pieces b) 0 (linesGo 0 (pieces a) []).1 []).1
    rw [show (linesGo 0 (pieces a) []).1 ++ moved (pieces a).length [] = (linesGo 0 (pieces a) []).1 by simp [moved]] at this
    rw [this]
  · rfl
/-- The number of lines, as the law counts it. -/
theorem pieces_count (a : List Int) : (pieces a).length = a.count 10 + 1 := by
  induction a with
  | nil => rfl
  | cons x a ih =>
    simp only [pieces]
    rw [List.count_cons]
    by_cases h : x = 10
    · rw [if_pos h]
      simp [h, ih]
    · rw [if_neg h]
      cases hp : pieces a with
      | nil => exact absurd hp (pieces_ne a)
      | cons p ps =>
        rw [hp] at ih
        simp at ih ⊢
        simp [h]
        omega

theorem linesGo_nums : ∀ (ps : List (List Int)) (i : Nat) (acc : List S32) (B : Int), (i : Int) + ps.length ≤ B → (∀ x ∈ acc, 0 ≤ x.f0 ∧ x.f0 ≤ B) → ∀ x ∈ (linesGo i ps acc).1, 0 ≤ x.f0 ∧ x.f0 ≤ B
  | [], i, acc, B, _, ha => ha
  | p :: ps, i, acc, B, hB, ha => by
    by_cases h : (lineOf (strOfNums p)).2 = true ∧ Lib.validD (strOfNums p).data.toList = true
    · rw [lg_yes h]
      refine linesGo_nums ps (i + 1) _ B (by simp at hB ⊢; omega) ?_
      split
      · exact ha
      · intro x hx
        rcases List.mem_append.1 hx with hx | hx
        · exact ha x hx
        · obtain rfl := List.mem_singleton.1 hx
          simp at hB ⊢
          omega
    · rw [lg_no h]
      intro x hx; cases hx
theorem linesOf_nums (b : List Int) (hb : b.length ≤ 3000) : ∀ x ∈ (linesOf b).1, 0 ≤ x.f0 ∧ x.f0 ≤ 3001 := by
  unfold linesOf
  rw [if_neg (by omega)]
  refine linesGo_nums (pieces b) 0 [] 3001 ?_ (fun x hx => by cases hx)
  have := pieces_len_le b
  simp
  omega
theorem linesOf_ok (b : List Int) (hb : b.length ≤ 3000) : ((linesOf b).2.2 ≠ 0 → (linesOf b).2.2 = 5 ∧ 1 ≤ (linesOf b).2.1 ∧ (linesOf b).2.1 ≤ 3001) := by
  unfold linesOf
  rw [if_neg (by omega)]
  intro h
  obtain ⟨h1, h2, h3⟩ := (linesGo_ok (pieces b) 0 []).2 h
  have := pieces_len_le b
  exact ⟨h1, h2, by simp at h3; omega⟩
theorem wrapZ (x : Int) (h0 : -1000000 ≤ x) (h1 : x ≤ 1000000) : wrap64 x = x := by
  unfold wrap64; omega
/-- The law's count of lines. -/
theorem join_count (a : List Int) (ha : a.length ≤ 3000) (x5 : List S32) (x6 x7 : Int) (x8 : List S32) (x9 x10 : Int) (x11 : List S32) (x12 x13 : Int) : ∀ (m k i n : Nat), a.length - i = m → i ≤ a.length → n ≤ i + 1 →
    murmurationlaw13_LexerJoin.l0 (k + m) a x5 x6 x7 x8 x9 x10 x11 x12 x13 (n : Int) (a.length : Int) (i : Int) = murmurationlaw13_LexerJoin.l0 k a x5 x6 x7 x8 x9 x10 x11 x12 x13 ((n + (a.drop i).count 10 : Nat) : Int) (a.length : Int) (a.length : Int)
  | 0, k, i, n, hm, hi, hn => by
    have : i = a.length := by omega
    subst this
    rw [List.drop_length]
    rfl
  | m + 1, k, i, n, hm, hi, hn => by
    have hlt : i < a.length := by omega
    rw [show k + (m + 1) = (k + m) + 1 by omega, murmurationlaw13_LexerJoin.l0]
    have hd : a.drop i = a[i] :: a.drop (i + 1) := List.drop_eq_getElem_cons hlt
    obtain ⟨h1, h2, h3, h4, h5⟩ := at_drop hd
    rw [if_pos (by omega), if_pos (by omega), if_pos (by omega), h2, wrapN i (by omega), hd, List.count_cons]
    by_cases h : a[i] = 10
    · rw [if_pos h, wrapN n (by omega), join_count a ha x5 x6 x7 x8 x9 x10 x11 x12 x13 m k (i + 1) (n + 1) (by omega) (by omega) (by omega), if_pos (by simp [h])]
      congr 2
      omega
    · rw [if_neg h, join_count a ha x5 x6 x7 x8 x9 x10 x11 x12 x13 m k (i + 1) n (by omega) (by omega) (by omega), if_neg (by simp [h]), show List.count 10 (List.drop (i + 1) a) + 0 = List.count 10 (List.drop (i + 1) a) from rfl]
/-- The law's turn of the second file's numbers. -/
theorem join_turn (l ms x11 : List S32) (n : Nat) (hn : n ≤ 3001) (hl : l.length ≤ 20001) (hms : ms.length ≤ 20001) (hb : ∀ x ∈ ms, 0 ≤ x.f0 ∧ x.f0 ≤ 3001) (hx : x11 = l ++ moved n ms) (hs : ∀ k, 1100000 ≤ k → murmurationref13_Same.f k x11 x11 = some true) :
    ∀ (m k i : Nat), ms.length - i = m → i ≤ ms.length → 1100000 + m + 1 ≤ k →
    murmurationlaw13_LexerJoin.l1 k l (moved n (ms.take i) ++ ms.drop i) x11 (n : Int) (ms.length : Int) (i : Int) = some true
  | 0, k, i, hm, hi, hk => by
    have : i = ms.length := by omega
    subst this
    obtain ⟨k, rfl⟩ : ∃ k1, k = k1 + 1 := ⟨k - 1, by omega⟩
    rw [murmurationlaw13_LexerJoin.l1, if_neg (by omega), List.take_length, List.drop_length, List.append_nil, if_pos (by simp [moved]; omega), ← hx, hs k (by omega)]
    rfl
  | m + 1, k, i, hm, hi, hk => by
    have hlt : i < ms.length := by omega
    obtain ⟨k, rfl⟩ : ∃ k1, k = k1 + 1 := ⟨k - 1, by omega⟩
    have hlen : (moved n (ms.take i)).length = i := by simp [moved]; omega
    have hrd : rd_T32 (moved n (ms.take i) ++ ms.drop i) (i : Int) = ms[i] := by
      unfold rd_T32
      rw [Int.toNat_natCast, List.getD_eq_getElem?_getD, List.getElem?_append_right (by omega), hlen, Nat.sub_self, List.getElem?_drop, Nat.add_zero, List.getElem?_eq_getElem hlt]
      rfl
    have hnum := hb ms[i] (List.getElem_mem hlt)
    have hset : (moved n (ms.take i) ++ ms.drop i).set i (⟨ms[i].f0 + (n : Int), ms[i].f1⟩ : S32) = moved n (ms.take (i + 1)) ++ ms.drop (i + 1) := by
      rw [List.set_append_right _ _ (by omega), hlen, Nat.sub_self, List.drop_eq_getElem_cons hlt, List.set_cons_zero, List.take_add_one, List.getElem?_eq_getElem hlt]
      unfold moved
      rw [List.map_append, List.append_assoc]
      rfl
    rw [murmurationlaw13_LexerJoin.l1, if_pos (by omega), if_pos (by omega), if_pos (by simp [moved]; omega), hrd, Int.toNat_natCast, wrapZ _ (by omega) (by omega), hset, wrapN i (by omega)]
    exact join_turn l ms x11 n hn hl hms hb hx hs m k (i + 1) (by omega) (by omega) (by omega)

theorem moved_len (n : Nat) (xs : List S32) : (moved n xs).length = xs.length := by simp [moved]
/-- LexerJoin, in plain Lean. -/
theorem law_join (a b : List Int) (ha : ∀ x ∈ a, 0 ≤ x ∧ x < 256) (hb : ∀ x ∈ b, 0 ≤ x ∧ x < 256) : murmurationlaw13_LexerJoin.f 2000000 a b = some true := by
  have hk : murmurationlaw13_known.f = some true := rfl
  have hj : ∀ t, (a.length ≤ 3000 ∧ b.length ≤ 3000) ∨ t = true → murmurationlaw13_LexerJoin.j0 2000000 a b t = some true := by
    intro t hl
    show murmurationlaw13_LexerJoin.j0 (1999999 + 1) a b t = _
    rw [murmurationlaw13_LexerJoin.j0]
    by_cases ht : t = true
    · rw [if_pos ht, hk]; rfl
    · rw [if_neg ht]
      obtain ⟨la, lb⟩ : a.length ≤ 3000 ∧ b.length ≤ 3000 := by rcases hl with h | h; exact h; exact absurd h ht
      have hab : ∀ x ∈ a ++ [10] ++ b, 0 ≤ x ∧ x < 256 := fun x hx => by
        rcases List.mem_append.1 hx with hx | hx
        · rcases List.mem_append.1 hx with hx | hx
          · exact ha x hx
          · obtain rfl := List.mem_singleton.1 hx
            omega
        · exact hb x hx
      have fa : lexer_Lines.f a = some (linesOf a) := by unfold lexer_Lines.f; rw [if_pos ha]
      have fb : lexer_Lines.f b = some (linesOf b) := by unfold lexer_Lines.f; rw [if_pos hb]
      have fab : lexer_Lines.f (a ++ [10] ++ b) = some (linesOf (a ++ [10] ++ b)) := by unfold lexer_Lines.f; rw [if_pos hab]
      rw [fa, fb]
      simp only [Option.bind_some, List.nil_append, List.length_nil, Nat.zero_add]
      rw [if_pos (by omega), if_pos (by omega), if_pos (by simp; omega), fab]
      simp only [Option.bind_some]
      have hc := join_count a la (linesOf a).1 (linesOf a).2.1 (linesOf a).2.2 (linesOf b).1 (linesOf b).2.1 (linesOf b).2.2 (linesOf (a ++ [10] ++ b)).1 (linesOf (a ++ [10] ++ b)).2.1 (linesOf (a ++ [10] ++ b)).2.2 a.length (1999999 - a.length) 0 1 (by omega) (by omega) (by omega)
      rw [show 1999999 - a.length + a.length = 1999999 by omega, List.drop_zero, show 1 + a.count 10 = (pieces a).length by rw [pieces_count]; omega] at hc
      rw [show ((1 : Nat) : Int) = 1 from rfl, show ((0 : Nat) : Int) = 0 from rfl] at hc
      rw [hc]
      have hJ := lines_join a b la lb
      have hpl := pieces_len_le a
      obtain ⟨K, hK⟩ : ∃ K, 1999999 - a.length = K + 1 := ⟨1999998 - a.length, by omega⟩
      rw [hK, murmurationlaw13_LexerJoin.l0, if_neg (by omega)]
      by_cases e0 : (linesOf a).2.2 = 0
      · rw [if_pos e0]
        rw [if_pos e0] at hJ
        by_cases f0 : (linesOf b).2.2 = 0
        · rw [if_pos f0]
          rw [if_pos f0] at hJ
          obtain ⟨sa, _⟩ := linesOf_size a
          obtain ⟨sb, _⟩ := linesOf_size b
          have hs := fun k hk => same_lines (a ++ [10] ++ b) k hk
          rw [hJ] at hs ⊢
          simp only at hs ⊢
          rw [if_pos trivial, wrapZ _ (by omega) (by omega), if_pos (by rw [List.length_append, moved_len]; omega)]
          have ht := join_turn (linesOf a).1 (linesOf b).1 _ (pieces a).length (by omega) (by omega) (by omega) (linesOf_nums b lb) rfl hs (linesOf b).1.length K 0 (by omega) (by omega) (by omega)
          rw [List.take_zero, List.drop_zero] at ht
          exact ht
        · rw [if_neg f0]
          rw [if_neg f0] at hJ
          obtain ⟨h5, hp, hq⟩ := linesOf_ok b lb f0
          rw [hJ]
          simp only
          rw [if_pos h5.symm, wrapZ _ (by omega) (by omega), if_pos (by omega), hk]
          rfl
      · rw [if_neg e0]
        rw [if_neg e0] at hJ
        rw [hJ, if_pos rfl, if_pos rfl, hk]
        rfl
  unfold murmurationlaw13_LexerJoin.f
  split
  · exact hj _ (Or.inr rfl)
  · by_cases h : (b.length : Int) > 3000
    · exact hj _ (Or.inr (decide_eq_true h))
    · exact hj _ (Or.inl ⟨by omega, by omega⟩)
end Go.Proofs.YtpnghpmgdekmgaaDoor.Q

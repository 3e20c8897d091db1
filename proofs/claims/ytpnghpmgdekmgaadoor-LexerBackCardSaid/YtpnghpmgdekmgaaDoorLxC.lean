import Derived.Test.YtpnghpmgdekmgaaDoorLxB
import Derived.Test.YtpnghpmgdekmgaaDoorQf3
namespace Go.Proofs.YtpnghpmgdekmgaaDoor.Q
open Go.RowKit Go.Proofs.YtpnghpmgdekmgaaDoorW.PrintWords Go.Proofs.YtpnghpmgdekmgaaDoorW.PrintLast Go.Proofs.YtpnghpmgdekmgaaDoorW.PrintMore
set_option linter.unusedVariables false
set_option linter.unusedSimpArgs false

theorem lineOf_B (p : List Int) (hb : ∀ x ∈ p, 0 ≤ x ∧ x < 256) (hv : Lib.validD (strOfNums p).data.toList = true) : lineOf (strOfNums p) = lineEnd (lineB 0 [] [] p) := by
  unfold lineOf
  rw [lineS_B (strOfNums p) ((strOfNums p).size + 1) 0 0 [] [] (by omega) (by omega) (by rw [List.drop_zero]; exact hv), List.drop_zero]
  have e := bytesOf_strOfNums p hb
  unfold bytesOf at e
  rw [e]
/-- What the reference's line comes to. -/
theorem line_ref (p : List Int) (hn : p.length ≤ 20000) (hb : ∀ x ∈ p, 0 ≤ x ∧ x < 256) (k : Nat) (hk : 6 * p.length + 8 ≤ k) :
    ∃ v, murmurationref13_line.f k p = some v ∧ (v.2 = true ↔ ((lineOf (strOfNums p)).2 = true ∧ Lib.validD (strOfNums p).data.toList = true)) ∧ (v.2 = true → v.1 = (lineOf (strOfNums p)).1) := by
  unfold murmurationref13_line.f murmurationref13_utf.f
  rw [if_pos ⟨hb, by omega⟩]
  have e : (strOfNums p).data.toList = Lib.bytesOf p := rfl
  simp only [Option.bind_some]
  rw [e]
  cases hv : Lib.validD (Lib.bytesOf p) with
  | false =>
    rw [if_neg (by decide)]
    exact ⟨_, rfl, ⟨fun h => (by cases h), fun h => (by cases h.2)⟩, fun h => (by cases h)⟩
  | true =>
    rw [if_pos rfl, lineOf_B p hb (by rw [e]; exact hv)]
    obtain ⟨v, h1, h2, h3⟩ := (line_runs p hn hb p.length).2 k 0 [] (by omega) hk (by omega) (by simp)
    rw [List.drop_zero] at h2 h3
    refine ⟨v, h1, ⟨fun h => ⟨by rw [← h2]; exact h, rfl⟩, fun h => by rw [h2]; exact h.1⟩, fun h => h3 (by rw [← h2]; exact h)⟩
theorem lg_yes {p : List Int} (h : (lineOf (strOfNums p)).2 = true ∧ Lib.validD (strOfNums p).data.toList = true) (ps : List (List Int)) (i : Nat) (acc : List S32) :
    linesGo i (p :: ps) acc = linesGo (i + 1) ps (if (lineOf (strOfNums p)).1 = [] then acc else acc ++ [⟨(i : Int) + 1, (lineOf (strOfNums p)).1⟩]) := by
  simp only [linesGo]; rw [if_pos h]
theorem lg_no {p : List Int} (h : ¬ ((lineOf (strOfNums p)).2 = true ∧ Lib.validD (strOfNums p).data.toList = true)) (ps : List (List Int)) (i : Nat) (acc : List S32) :
    linesGo i (p :: ps) acc = ([], (i : Int) + 1, 5) := by
  simp only [linesGo]; rw [if_neg h]
theorem pieces_at {l : List Int} {i : Nat} {c : Int} {r : List Int} (h : l.drop i = c :: r) : pieces (l.drop i) = if c = 10 then [] :: pieces (l.drop (i + 1)) else match pieces (l.drop (i + 1)) with
    | [] => [[c]]
    | p :: ps => (c :: p) :: ps := by
  obtain ⟨_, _, h3, _, _⟩ := at_drop h
  rw [h, h3]
  rfl
theorem seg_next {l : List Int} {i fr : Nat} {c : Int} {r : List Int} (h : l.drop i = c :: r) (hf : fr ≤ i) : (l.take (i + 1)).drop fr = (l.take i).drop fr ++ [c] := by
  obtain ⟨h1, _, _, _, _⟩ := at_drop h
  rw [List.drop_eq_getElem_cons h1] at h
  injection h with hc _
  rw [List.take_add_one, List.getElem?_eq_getElem h1, hc]
  have hl : (l.take i).length = i := by rw [List.length_take]; omega
  rw [List.drop_append_of_le_length (by omega)]
  rfl

theorem lines_run (l : List Int) (hn : l.length ≤ 20000) (hb : ∀ x ∈ l, 0 ≤ x ∧ x < 256) : ∀ (m k i fr idx : Nat) (acc : List S32) (q : List Int) (qs : List (List Int)),
    l.length - i ≤ m → 6 * l.length + 8 + 3 * m + 5 ≤ k → fr ≤ i → i ≤ l.length → idx ≤ i → acc.length ≤ i → pieces (l.drop i) = q :: qs →
    murmurationref13_Lines.l0 k l acc (fr : Int) ((idx + 1 : Nat) : Int) (i : Int) = some (linesGo idx (((l.take i).drop fr ++ q) :: qs) acc)
  | m, k, i, fr, idx, acc, q, qs, hm, hk, hfr, hi, hix, hac, hp => by
    obtain ⟨k, rfl⟩ : ∃ k1, k = k1 + 1 + 1 + 1 := ⟨k - 3, by omega⟩
    simp only [murmurationref13_Lines.l0]
    rw [if_pos (by omega)]
    -- what a line's end does
    have hend : ∀ (qs' : List (List Int)), (i = l.length ∧ qs' = [] ∨ (∃ r, l.drop i = 10 :: r ∧ qs' = pieces (l.drop (i + 1)))) →
        murmurationref13_Lines.j1 (k + 1 + 1) l acc (fr : Int) ((idx + 1 : Nat) : Int) (i : Int) false = some (linesGo idx ((l.take i).drop fr :: qs') acc) := by
      intro qs' hq
      simp only [murmurationref13_Lines.j1, Bool.false_eq_true, if_false]
      rw [if_pos (by omega), if_pos (by omega), if_pos (by omega), Int.toNat_natCast, Int.toNat_natCast]
      obtain ⟨p, hpe⟩ : ∃ p, (l.take i).drop fr = p := ⟨_, rfl⟩
      have hpl : p.length ≤ l.length := by rw [← hpe, List.length_drop, List.length_take]; omega
      have hpb : ∀ x ∈ p, 0 ≤ x ∧ x < 256 := fun x hx => hb x (List.mem_of_mem_take (List.mem_of_mem_drop (by rw [hpe]; exact hx)))
      obtain ⟨v, h1, h2, h3⟩ := line_ref p (by omega) hpb (k + 1) (by omega)
      rw [hpe, h1]
      simp only [Option.bind_some, linesGo]
      by_cases hv : v.2 = true
      · rw [if_pos hv, if_pos (h2.1 hv), ← h3 hv, wrapN i (by omega), wrapN (idx + 1) (by omega)]
        have hnext : ∀ (acc' : List S32), acc'.length ≤ i + 1 → murmurationref13_Lines.l0 (k + 1) l acc' ((i + 1 : Nat) : Int) ((idx + 1 + 1 : Nat) : Int) ((i + 1 : Nat) : Int) = some (linesGo (idx + 1) qs' acc') := by
          intro acc' ha'
          rcases hq with ⟨he, rfl⟩ | ⟨r, he, rfl⟩
          · simp only [murmurationref13_Lines.l0]
            rw [if_neg (by omega)]
            rfl
          · obtain ⟨g1, g2, g3, g4, g5⟩ := at_drop he
            cases hpp : pieces (l.drop (i + 1)) with
            | nil => exact absurd hpp (pieces_ne _)
            | cons q2 qs2 =>
              have ih := lines_run l hn hb (m - 1) (k + 1) (i + 1) (i + 1) (idx + 1) acc' q2 qs2 (by omega) (by omega) (Nat.le_refl _) (by omega) (by omega) ha' hpp
              rw [ih]
              have : (l.take (i + 1)).drop (i + 1) = [] := by rw [List.drop_eq_nil_of_le]; rw [List.length_take]; omega
              rw [this, List.nil_append]
        cases hw : v.1 with
        | nil =>
          rw [if_neg (by simp), if_pos rfl]
          exact hnext acc (by omega)
        | cons a t =>
          rw [if_pos (by simp <;> omega), if_pos (by omega), if_neg (by simp)]
          have := hnext (acc ++ [⟨((idx + 1 : Nat) : Int), a :: t⟩]) (by simp; omega)
          exact this
      · rw [if_neg hv, if_neg (fun h => hv (h2.2 h))]
        rfl
    cases hd : l.drop i with
    | nil =>
      have he := end_drop hd hi
      rw [hd] at hp
      obtain ⟨rfl, rfl⟩ : [] = q ∧ [] = qs := by simpa [pieces] using hp
      rw [if_neg (by omega), List.append_nil]
      exact hend [] (Or.inl ⟨he, rfl⟩)
    | cons c r =>
      obtain ⟨h1, h2, h3, h4, h5⟩ := at_drop hd
      rw [if_pos (by omega), if_pos (by omega), h2]
      rw [pieces_at hd] at hp
      by_cases c10 : c = 10
      · subst c10
        rw [if_pos rfl] at hp
        obtain ⟨rfl, rfl⟩ : [] = q ∧ pieces (l.drop (i + 1)) = qs := by simpa using hp
        rw [show ((10 : Int) != 10) = false from rfl, List.append_nil]
        exact hend _ (Or.inr ⟨r, hd, rfl⟩)
      · rw [if_neg c10] at hp
        have hne : (c != 10) = true := by simp [c10]
        rw [hne]
        simp only [murmurationref13_Lines.j1, if_true]
        rw [wrapN i (by omega)]
        cases hpp : pieces (l.drop (i + 1)) with
        | nil => exact absurd hpp (pieces_ne _)
        | cons q2 qs2 =>
          rw [hpp] at hp
          simp only [List.cons.injEq] at hp
          obtain ⟨rfl, rfl⟩ := hp
          rw [lines_run l hn hb (m - 1) (k + 1) (i + 1) fr idx acc q2 qs2 (by omega) (by omega) (by omega) (by omega) (by omega) (by omega) hpp, seg_next hd hfr, List.append_assoc, List.singleton_append]
termination_by m k i => l.length - i
theorem ref_lines (l : List Int) (hb : ∀ x ∈ l, 0 ≤ x ∧ x < 256) (k : Nat) (hk : 300000 ≤ k) : murmurationref13_Lines.f k l = some (linesOf l) := by
  unfold murmurationref13_Lines.f linesOf
  by_cases h : 20000 < l.length
  · rw [if_pos (by omega), if_pos h]
  · rw [if_neg (by omega), if_neg h]
    cases hp : pieces l with
    | nil => exact absurd hp (pieces_ne l)
    | cons q qs =>
      have := lines_run l (by omega) hb l.length k 0 0 0 [] q qs (by omega) (by omega) (Nat.le_refl _) (by omega) (Nat.le_refl _) (by simp) (by rw [List.drop_zero]; exact hp)
      exact this
/-! ### Alike to itself -/
theorem words_self (xs : List ByteArray) (hx : xs.length ≤ 1000000) : ∀ (m k i : Nat), xs.length - i ≤ m → m < k → murmurationref13_Words.l0 k xs xs (i : Int) = some true
  | m, 0, i, _, hk => by omega
  | m, k + 1, i, hm, hk => by
    simp only [murmurationref13_Words.l0]
    by_cases h : i < xs.length
    · rw [if_pos (by omega), if_pos (by omega), if_pos (by omega), if_pos trivial, wrapN i (by omega)]
      exact words_self xs hx (m - 1) k (i + 1) (by omega) (by omega)
    · rw [if_neg (by omega)]
theorem same_self (xs : List S32) (hx : xs.length ≤ 1000000) (hw : ∀ x ∈ xs, x.f1.length ≤ 1000000) : ∀ (m k i : Nat), xs.length - i ≤ m → m + 1000003 ≤ k → murmurationref13_Same.l0 k xs xs (i : Int) = some true
  | m, 0, i, _, hk => by omega
  | m, k + 1, i, hm, hk => by
    simp only [murmurationref13_Same.l0]
    by_cases h : i < xs.length
    · rw [if_pos (by omega), if_pos (by omega), if_pos (by omega), if_pos trivial]
      have hi : (rd_T32 xs (i : Int)) ∈ xs := by
        unfold rd_T32
        rw [Int.toNat_natCast, List.getD_eq_getElem?_getD, List.getElem?_eq_getElem h]
        exact List.getElem_mem h
      have hl := hw _ hi
      have hws : murmurationref13_Words.f k (rd_T32 xs (i : Int)).f1 (rd_T32 xs (i : Int)).f1 = some true := by
        unfold murmurationref13_Words.f
        rw [if_pos rfl]
        exact words_self _ hl (rd_T32 xs (i : Int)).f1.length k 0 (by omega) (by omega)
      rw [hws]
      simp only [Option.bind_some, if_true]
      rw [wrapN i (by omega)]
      exact same_self xs hx hw (m - 1) k (i + 1) (by omega) (by omega)
    · rw [if_neg (by omega)]
theorem lineS_words : ∀ (f pos : Nat) (s : ByteArray) (st : Int) (xs : List Int) (ws : List ByteArray) (r : Int × List Int × List ByteArray), lineS s f pos st xs ws = some r → r.2.2.length ≤ ws.length + f
  | 0, _, _, _, _, _, _, h => by cases h
  | f + 1, pos, s, st, xs, ws, r, h => by
    simp only [lineS] at h
    split at h
    · cases hr : readS st xs ws ((Utf8.decode s pos).1 : Int) with
      | none => rw [hr] at h; cases h
      | some q =>
        have hz := (readS_size hr).2
        rw [hr] at h
        simp only at h
        split at h
        · have := lineS_words f _ s _ _ _ r h
          omega
        · obtain rfl := Option.some.inj h
          omega
    · obtain rfl := Option.some.inj h
      simp
theorem lineOf_words (s : ByteArray) : (lineOf s).1.length ≤ s.size + 2 := by
  unfold lineOf
  cases h : lineS s (s.size + 1) 0 0 [] [] with
  | none => simp [lineEnd]
  | some r =>
    have := lineS_words _ _ _ _ _ _ r h
    simp only [lineEnd]
    simp at this
    split <;> simp <;> omega
theorem linesGo_size : ∀ (ps : List (List Int)) (i : Nat) (acc : List S32) (B : Nat), (∀ p ∈ ps, p.length ≤ B) → (∀ x ∈ acc, x.f1.length ≤ B + 2) →
    (linesGo i ps acc).1.length ≤ acc.length + ps.length ∧ ∀ x ∈ (linesGo i ps acc).1, x.f1.length ≤ B + 2
  | [], i, acc, B, _, ha => ⟨by simp [linesGo], ha⟩
  | p :: ps, i, acc, B, hp, ha => by
    simp only [linesGo]
    have hl := lineOf_words (strOfNums p)
    rw [strOfNums_size] at hl
    have hpb := hp p (List.mem_cons_self ..)
    split
    · have hB : ∀ acc' : List S32, acc'.length ≤ acc.length + 1 → (∀ x ∈ acc', x.f1.length ≤ B + 2) → (linesGo (i + 1) ps acc').1.length ≤ acc.length + (p :: ps).length ∧ ∀ x ∈ (linesGo (i + 1) ps acc').1, x.f1.length ≤ B + 2 := by
        intro acc' h1 h2
        obtain ⟨h3, h4⟩ := linesGo_size ps (i + 1) acc' B (fun q hq => hp q (List.mem_cons_of_mem _ hq)) h2
        exact ⟨by simp; omega, h4⟩
      split
      · exact hB acc (by omega) ha
      · refine hB _ (by simp) (fun x hx => ?_)
        rcases List.mem_append.1 hx with hx | hx
        · exact ha x hx
        · obtain rfl := List.mem_singleton.1 hx
          show (lineOf (strOfNums p)).1.length ≤ _
          omega
    · exact ⟨by simp, by simp⟩
theorem linesOf_size (l : List Int) : (linesOf l).1.length ≤ 20001 ∧ ∀ x ∈ (linesOf l).1, x.f1.length ≤ 20002 := by
  unfold linesOf
  split
  · exact ⟨by simp, by simp⟩
  · rename_i h
    have := linesGo_size (pieces l) 0 [] 20000 (fun p hp => by have := (pieces_mem hp).1; omega) (by simp)
    have hl := pieces_len_le l
    simp only [List.length_nil, Nat.zero_add] at this
    exact ⟨by omega, this.2⟩
theorem same_lines (l : List Int) (k : Nat) (hk : 1100000 ≤ k) : murmurationref13_Same.f k (linesOf l).1 (linesOf l).1 = some true := by
  obtain ⟨h1, h2⟩ := linesOf_size l
  unfold murmurationref13_Same.f
  rw [if_pos rfl]
  exact same_self _ (by omega) (fun x hx => by have := h2 x hx; omega) 20001 k 0 (by omega) (by omega)

/-- LexerLines, in plain Lean. -/
theorem law_lines (l : List Int) (hb : ∀ x ∈ l, 0 ≤ x ∧ x < 256) : murmurationlaw13_LexerLines.f 2000000 l = some true := by
  have hj : ∀ b, l.length ≤ 3000 ∨ l.length ≤ 30000 ∨ b = true → murmurationlaw13_LexerLines.j0 2000000 l b = some true := by
    intro b hl
    have hk : murmurationlaw13_known.f = some true := rfl
    show murmurationlaw13_LexerLines.j0 (1999999 + 1) l b = _
    rw [murmurationlaw13_LexerLines.j0]
    by_cases hbt : b = true
    · rw [if_pos hbt, hk]; rfl
    · rw [if_neg hbt]
      simp only [Option.bind_some, List.nil_append, List.length_nil, Nat.zero_add]
      have hlen : l.length ≤ 30000 := by rcases hl with h | h | h <;> first | omega | exact absurd h hbt
      rw [if_pos (by omega)]
      unfold lexer_Lines.f
      rw [if_pos hb]
      simp only [Option.bind_some]
      rw [ref_lines l hb _ (by omega)]
      simp only [Option.bind_some]
      rw [same_lines l _ (by omega)]
      simp only [Option.bind_some, if_true]
      rw [hk]
      rfl
  unfold murmurationlaw13_LexerLines.f
  split
  · split
    · exact hj _ (by right; right; rfl)
    · by_cases h : (l.length : Int) > 30000
      · exact hj _ (by right; right; exact decide_eq_true h)
      · exact hj _ (by right; left; omega)
  · exact hj _ (by left; omega)
end Go.Proofs.YtpnghpmgdekmgaaDoor.Q

import Derived.Test.YtpnghpmgdekmgaaDoorLxL
import Derived.Test.YtpnghpmgdekmgaaDoorLxV
import Derived.Lib.MapLaws
import Derived.Lib.ValidLaws
namespace Go.Proofs.YtpnghpmgdekmgaaDoor.Q
open Go.RowKit Go.Proofs.YtpnghpmgdekmgaaDoorW.PrintWords Go.Proofs.YtpnghpmgdekmgaaDoorW.PrintLast Go.Proofs.YtpnghpmgdekmgaaDoorW.PrintMore
set_option linter.unusedVariables false
set_option linter.unusedSimpArgs false

/-- The reader, byte by byte. -/
def readB (st : Int) (xs : List Int) (ws : List ByteArray) (b : Int) : Option (Bool × Int × List Int × List ByteArray) :=
  if b < 128 then readS st xs ws b
  else if st = 3 ∨ st = 4 then none else some (true, if st = 2 then 2 else 1, xs ++ [b], ws)
def lineB : Int → List Int → List ByteArray → List Int → Option (Int × List Int × List ByteArray)
  | st, xs, ws, [] => some (st, xs, ws)
  | st, xs, ws, b :: bs =>
    match readB st xs ws b with
    | none => none
    | some r => if r.1 = true then lineB r.2.1 r.2.2.1 r.2.2.2 bs else some r.2

theorem readS_high (st : Int) (xs : List Int) (ws : List ByteArray) (c : Int) (hc : 128 ≤ c) :
    readS st xs ws c = if st = 3 ∨ st = 4 then none else some (true, if st = 2 then 2 else 1, xs ++ Lib.encodeRuneZ c, ws) := by
  have n32 : ¬ (c = 32 ∨ c = 9 ∨ c = 35) := by omega
  have n34 : ¬ c = 34 := by omega
  have n92 : ¬ c = 92 := by omega
  have nlt : ¬ c < 32 := by omega
  have n127 : ¬ c = 127 := by omega
  have n110 : ¬ c = 110 := by omega
  unfold readS withinS
  simp only [n32, n34, n92, nlt, n127, n110, if_false]
  by_cases h2 : st = 2
  · subst h2; simp
  · by_cases h3 : st = 3
    · subst h3; simp
    · by_cases h4 : st = 4
      · subst h4; simp
      · simp [h2, h3, h4]
theorem lineB_high : ∀ (hs rest : List Int) (st : Int) (xs : List Int) (ws : List ByteArray), (∀ x ∈ hs, 128 ≤ x) → hs ≠ [] →
    lineB st xs ws (hs ++ rest) = if st = 3 ∨ st = 4 then none else lineB (if st = 2 then 2 else 1) (xs ++ hs) ws rest
  | [], _, _, _, _, _, h => absurd rfl h
  | b :: hs, rest, st, xs, ws, hh, _ => by
    have hb : ¬ b < 128 := by have := hh b (by simp); omega
    rw [List.cons_append]
    simp only [lineB, readB, if_neg hb]
    by_cases h34 : st = 3 ∨ st = 4
    · rw [if_pos h34, if_pos h34]
    · rw [if_neg h34, if_neg h34]
      simp only [if_true]
      cases hs with
      | nil => simp
      | cons c hs =>
        rw [lineB_high (c :: hs) rest _ _ ws (fun x hx => hh x (List.mem_cons_of_mem _ hx)) (by simp)]
        by_cases h2 : st = 2
        · subst h2; simp
        · simp [h2]
/-- A rune that decodes is encoded by the bytes that it was decoded from. -/
theorem enc_dec (l : List UInt8) (hne : l ≠ []) (hok : ¬ ((Lib.decodeL l).1 = 65533 ∧ (Lib.decodeL l).2 = 1)) :
    ((l.getD 0 0).toNat < 128 ∧ (Lib.decodeL l).1 = (l.getD 0 0).toNat ∧ (Lib.decodeL l).2 = 1) ∨
    (128 ≤ (Lib.decodeL l).1 ∧ Lib.encodeRuneZ ((Lib.decodeL l).1 : Int) = (l.take (Lib.decodeL l).2).map (fun b => (b.toNat : Int)) ∧ ∀ x ∈ (l.take (Lib.decodeL l).2).map (fun b => (b.toNat : Int)), 128 ≤ x) := by
  rw [Lib.decodeL_N] at hok ⊢
  have l0 := (l.getD 0 0).toNat_lt
  have l1 := (l.getD 1 0).toNat_lt
  have l2 := (l.getD 2 0).toNat_lt
  have l3 := (l.getD 3 0).toNat_lt
  rcases Lib.decodeN_shape l.length (l.getD 0 0).toNat (l.getD 1 0).toNat (l.getD 2 0).toNat (l.getD 3 0).toNat with ⟨c, e⟩ | ⟨c1, c2, c3, cv, e⟩ | ⟨c1, c2, c3, c4, cv, cs, e⟩ | ⟨c1, c2, c3, c4, c5, cv, cm, e⟩ | e
  · rw [e]; exact .inl ⟨c, rfl, rfl⟩
  · rw [e]
    refine .inr ⟨cv, ?_, ?_⟩
    · rw [Lib.takeB l c2]
      simp only [List.map_cons, List.map_nil]
      rw [Lib.encodeRuneZ_two (by omega) (by omega)]
      simp only [List.cons.injEq, and_true]
      omega
    · rw [Lib.takeB l c2]
      simp only [List.map_cons, List.map_nil, List.mem_cons, List.not_mem_nil, or_false, forall_eq_or_imp, forall_eq]
      omega
  · rw [e]
    refine .inr ⟨by omega, ?_, ?_⟩
    · rw [Lib.takeC l c2]
      simp only [List.map_cons, List.map_nil]
      rw [Lib.encodeRuneZ_three (by omega)]
      simp only [List.cons.injEq, and_true]
      omega
    · rw [Lib.takeC l c2]
      simp only [List.map_cons, List.map_nil, List.mem_cons, List.not_mem_nil, or_false, forall_eq_or_imp, forall_eq]
      omega
  · rw [e]
    refine .inr ⟨by omega, ?_, ?_⟩
    · rw [Lib.takeD l c2]
      simp only [List.map_cons, List.map_nil]
      rw [Lib.encodeRuneZ_four (by omega) (by omega)]
      simp only [List.cons.injEq, and_true]
      omega
    · rw [Lib.takeD l c2]
      simp only [List.map_cons, List.map_nil, List.mem_cons, List.not_mem_nil, or_false, forall_eq_or_imp, forall_eq]
      omega
  · rw [e] at hok
    exact absurd ⟨rfl, rfl⟩ hok

theorem lineS_B (s : ByteArray) : ∀ (f pos : Nat) (st : Int) (xs : List Int) (ws : List ByteArray), s.size < f + pos → pos ≤ s.size → Lib.validD (s.data.toList.drop pos) = true →
    lineS s f pos st xs ws = lineB st xs ws ((s.data.toList.drop pos).map (fun b => (b.toNat : Int)))
  | 0, pos, _, _, _, h, h', _ => by omega
  | f + 1, pos, st, xs, ws, hf, hp, hv => by
    have hsz : s.data.toList.length = s.size := data_length s
    simp only [lineS]
    by_cases h : pos < s.size
    · rw [if_pos h]
      have hne : s.data.toList.drop pos ≠ [] := by
        intro e
        have := congrArg List.length e
        rw [List.length_drop, hsz] at this
        simp at this
        omega
      obtain ⟨l, hl⟩ : ∃ l, s.data.toList.drop pos = l := ⟨_, rfl⟩
      have hdec : Utf8.decode s pos = Lib.decodeL l := by rw [← hl]; exact (Lib.decodeL_drop s pos).symm
      have hfit := decode_fits s pos h
      rw [hdec] at hfit ⊢
      rw [hl] at hne hv ⊢
      rw [Lib.validD_step l hne] at hv
      have hbad : ¬ ((Lib.decodeL l).1 = 65533 ∧ (Lib.decodeL l).2 = 1) := fun e => by rw [if_pos e] at hv; cases hv
      rw [if_neg hbad] at hv
      have hw := Lib.decodeL_width l
      have hnext : s.data.toList.drop (pos + (Lib.decodeL l).2) = l.drop (Lib.decodeL l).2 := by rw [← hl, List.drop_drop]
      have ih := fun st xs ws => lineS_B s f (pos + (Lib.decodeL l).2) st xs ws (by omega) (by omega) (by rw [hnext]; exact hv)
      rw [hnext] at ih
      have hsplit : l.map (fun b => (b.toNat : Int)) = (l.take (Lib.decodeL l).2).map (fun b => (b.toNat : Int)) ++ (l.drop (Lib.decodeL l).2).map (fun b => (b.toNat : Int)) := by rw [← List.map_append, List.take_append_drop]
      rcases enc_dec l hne hbad with ⟨h1, h2, h3⟩ | ⟨h1, h2, h3⟩
      · rw [h3] at ih ⊢
        rw [h2]
        cases l with
        | nil => exact absurd rfl hne
        | cons b t =>
          simp only [List.map_cons, lineB, readB]
          have hb : ((b.toNat : Int) < 128) := by have : b.toNat < 128 := h1; omega
          rw [if_pos hb]
          show (match readS st xs ws ((b.toNat : Nat) : Int) with | none => none | some r => _) = _
          cases readS st xs ws (b.toNat : Int) with
          | none => rfl
          | some r =>
            simp only
            rw [ih]
            rfl
      · rw [hsplit, lineB_high _ _ _ _ _ h3 (by intro e; have h5 := (Lib.encodeRuneZ_length ((Lib.decodeL l).1 : Int)).1; rw [h2, e] at h5; simp at h5), readS_high st xs ws _ (by omega)]
        by_cases h34 : st = 3 ∨ st = 4
        · rw [if_pos h34, if_pos h34]
        · rw [if_neg h34, if_neg h34]
          simp only [if_true]
          rw [ih, h2]
    · rw [if_neg h, List.drop_eq_nil_of_le (by omega)]
      rfl
end Go.Proofs.YtpnghpmgdekmgaaDoor.Q

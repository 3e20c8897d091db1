import Derived.Test.YtpnghpmgdekmgaaDoorLxC
import Derived.Test.YtpnghpmgdekmgaaDoorLxK
import Derived.Test.YtpnghpmgdekmgaaDoorQf11
import Derived.Lib.OthersKept
import Derived.Deep.LoopGhost
import Derived.Deep.QuietTactic
import Derived.BigQuiet
namespace Go.Proofs.YtpnghpmgdekmgaaDoor.Q
open Go.RowKit Go.Proofs.YtpnghpmgdekmgaaDoorW.PrintWords Go.Proofs.YtpnghpmgdekmgaaDoorW.PrintLast Go.Proofs.YtpnghpmgdekmgaaDoorW.PrintMore
set_option linter.unusedVariables false
set_option linter.unusedSimpArgs false

/-- What a rune is written as; none: the word isn't taken. -/
def runeOut (c : Int) : Option (List Int) :=
  if c = 10 then some [92, 110] else if c = 34 then some [92, c] else if c = 92 then some [92, c]
  else if c < 32 then none else if c = 127 then none else if c = 65533 then none else some (Lib.encodeRuneZ c)
/-- A word, rune by rune. -/
def wordOut (s : ByteArray) : Nat → Nat → List Int → Option (List Int)
  | 0, _, _ => none
  | k + 1, pos, acc =>
    if pos < s.size then
      match runeOut ((Utf8.decode s pos).1 : Int) with
      | none => none
      | some o => wordOut s k (pos + (Utf8.decode s pos).2) (acc ++ o)
    else some acc
/-- The file that the law writes. -/
def backGo : List ByteArray → List Int → Option (List Int)
  | [], acc => some acc
  | s :: ss, acc => if 160 < s.size then none else match wordOut s (s.size + 1) 0 (acc ++ [32, 34]) with
    | none => none
    | some a => backGo ss (a ++ [34])
theorem runeOut_len {c : Int} {o : List Int} (h : runeOut c = some o) : o.length ≤ 4 := by
  have := (Lib.encodeRuneZ_length c).2
  unfold runeOut at h
  repeat' split at h
  all_goals first
    | (cases h; done)
    | (obtain rfl := Option.some.inj h; simp; done)
    | (obtain rfl := Option.some.inj h; omega)
theorem wordOut_len (s : ByteArray) : ∀ (k pos : Nat) (acc r : List Int), wordOut s k pos acc = some r → r.length ≤ acc.length + 4 * k
  | 0, _, _, _, h => by cases h
  | k + 1, pos, acc, r, h => by
    simp only [wordOut] at h
    split at h
    · cases ho : runeOut ((Utf8.decode s pos).1 : Int) with
      | none => rw [ho] at h; cases h
      | some o =>
        rw [ho] at h
        have h1 := wordOut_len s k _ _ r h
        have h2 := runeOut_len ho
        simp at h1
        omega
    · obtain rfl := Option.some.inj h
      omega
theorem R_iter {d : Kd Int} {e base k : Nat} {ok : Nat → Prop} {w : World} {v : Value} {xs : List Int} {s : ByteArray} {pos : Nat} (h : Kd.R d e w base ok v xs) (hk : w.heap[k]? = some (.stringIter s pos)) (p' : Nat) : Kd.R d e (w.iterAt k s p') base ok v xs := by
  refine Kd.R_mono (Kd.R_move (Kd.R_bound h) (fun j hj => ?_)) (fun _ h => h.1)
  obtain ⟨_, _, _, q, hq, cells, hc⟩ := hj
  exact Lib.iterAt_other _ _ _ _ _ (fun e' => by subst e'; rw [hk] at hc; cases hc)
end Go.Proofs.YtpnghpmgdekmgaaDoor.Q

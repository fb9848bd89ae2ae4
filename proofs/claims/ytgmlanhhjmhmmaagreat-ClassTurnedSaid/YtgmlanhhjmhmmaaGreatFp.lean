/- The law of methods' types. -/
import Derived.Test.YtgmlanhhjmhmmaaGreatFo
namespace Go.Proofs.YtgmlanhhjmhmmaaGreat.Ev
open Go

def strs (xs : List (List UInt8)) : List V := xs.map V.str

theorem ev99 (xs : List V) (o : Bool) : ev tab prim 99 [.list 1 xs o] [[], []] = some (.int .i64 xs.length, [[], []]) := by
  rw [ev_fn' tab prim (f := 99) rfl _ _ rfl]
  simp

theorem prm_few (k : Nat) : ∀ s, (prm k s).1.length ≤ k := by
  induction k with
  | zero => intro s; simp [prm]
  | succ k ih =>
    intro s
    unfold prm
    split
    · simp
    · have := ih (s.drop (fr 0 s)); simp only [List.length_cons]; omega

theorem methV_parts (s : List UInt8) : ∃ ps q e, methV s = .tup [.list 1 (strs ps) true, .str q, .int .i64 e] ∧ ps.length ≤ 8 := by
  unfold methV
  split
  · exact ⟨_, _, _, rfl, prm_few 8 _⟩
  · exact ⟨[], [], 6, rfl, by simp⟩

end Go.Proofs.YtgmlanhhjmhmmaaGreat.Ev

/- The law of methods' types. -/
import Derived.Test.YtgmlanhhjmhmmaaFo
namespace Go.Proofs.Ytgmlanhhjmhmmaa.Ev
open Go

def strs (xs : List (List UInt8)) : List V := xs.map V.str

set_option maxHeartbeats 4000000 in
theorem textsLoop (xs : List (List UInt8)) (hl : xs.length ≤ 1000) : ∀ (k i : Nat), i + k = xs.length →
    cv tab prim (.loop L13_0) { env := [(0, .list 1 (strs xs) false), (1, .list 1 (strs xs) false), (5, .int .i64 (i : Int))], mem := [[], [], []] } = some (.exit 0, { env := [], mem := [[], [], []] }) := by
  intro k
  induction k with
  | zero =>
    intro i hi
    have h1 : ¬ (i : Int) < ((strs xs).length : Int) := by simp [strs]; omega
    rw [cv_loop']
    simp [L13_0, h1]
  | succ k ih =>
    intro i hi
    have h1 : (i : Int) < ((strs xs).length : Int) := by simp [strs]; omega
    have h1' : i < (strs xs).length := by simpa using h1
    have hlt : i < xs.length := by omega
    have hx : (strs xs)[i] = .str xs[i] := by simp [strs]
    have hw : IntKind.i64.wrap ((i : Int) + 1) = ((i + 1 : Nat) : Int) := by rw [wrap_small (by omega) (by omega)]; omega
    have := ih (i + 1) (by omega)
    rw [← hw] at this
    rw [cv_loop']
    simpa [L13_0, h1, h1', idxOk, hx] using this

theorem ev13 (xs : List (List UInt8)) (hl : xs.length ≤ 1000) (o1 o2 : Bool) : ev tab prim 13 [.list 1 (strs xs) o1, .list 1 (strs xs) o2] [[], []] = some (.bool true, [[], []]) := by
  rw [ev_fn' tab prim (f := 13) rfl _ _ rfl]
  have h := textsLoop xs hl xs.length 0 (by omega)
  simp only [Int.natCast_zero] at h
  simp [h]

theorem ev77 (xs : List V) (o : Bool) : ev tab prim 77 [.list 1 xs o] [[], []] = some (.int .i64 xs.length, [[], []]) := by
  rw [ev_fn' tab prim (f := 77) rfl _ _ rfl]
  simp

theorem prm_few (k : Nat) : ∀ s, (prm k s).1.length ≤ k := by
  induction k with
  | zero => intro s; simp [prm]
  | succ k ih =>
    intro s
    unfold prm
    split
    · simp
    · have := ih (s.drop (fr 0 s)); simp only [List.length_cons]; omega

theorem methV_parts (s : List UInt8) : ∃ ps q e, methV s = .tup [.list 1 (strs ps) true, .str q, .int .i64 e] ∧ ps.length ≤ 8 := by
  unfold methV
  split
  · exact ⟨_, _, _, rfl, prm_few 8 _⟩
  · exact ⟨[], [], 6, rfl, by simp⟩

end Go.Proofs.Ytgmlanhhjmhmmaa.Ev

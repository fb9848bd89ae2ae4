/- How much there is, held: a number, whatever it is. -/
import Derived.Test.YtpmpofcokkgfdaaGreatDoorFa
namespace Go.Proofs.YtpmpofcokkgfdaaGreatDoor.Ev
open Go

theorem wrap_small {z : Int} (h1 : -9223372036854775808 ≤ z) (h2 : z ≤ 9223372036854775807) : IntKind.i64.wrap z = z := by
  unfold IntKind.wrap
  simp [IntKind.bits, IntKind.signed]
  omega

def ints (xs : List Int) : List V := xs.map (V.int .i64)

theorem sumLoop (xs : List Int) (hl : xs.length ≤ 1000) : ∀ (k i : Nat) (n : Int), i + k = xs.length →
    cv tab prim (.loop L13_0) { env := [(0, .int .i64 n), (1, .list 1 (ints xs) false), (5, .int .i64 (i : Int))], mem := [[], [], []] } = some (.ret, { env := [(4, .int .i64 1099511627776)], mem := [[], [], []] }) ∨
    ∃ n', cv tab prim (.loop L13_0) { env := [(0, .int .i64 n), (1, .list 1 (ints xs) false), (5, .int .i64 (i : Int))], mem := [[], [], []] } = some (.exit 0, { env := [(0, .int .i64 n')], mem := [[], [], []] }) := by
  intro k
  induction k with
  | zero =>
    intro i n hi
    right
    have h1 : ¬ (i : Int) < ((ints xs).length : Int) := by simp [ints]; omega
    refine ⟨n, ?_⟩
    rw [cv_loop']
    simp [L13_0, h1]
  | succ k ih =>
    intro i n hi
    have h1 : (i : Int) < ((ints xs).length : Int) := by simp [ints]; omega
    have h1' : i < (ints xs).length := by simpa using h1
    have hlt : i < xs.length := by omega
    have hx : (ints xs)[i] = .int .i64 xs[i] := by simp [ints]
    have hw : IntKind.i64.wrap ((i : Int) + 1) = ((i + 1 : Nat) : Int) := by rw [wrap_small (by omega) (by omega)]; omega
    rw [cv_loop']
    by_cases h2 : 1099511627776 < n
    · left
      simp [L13_0, h1, h2]
    · by_cases h3 : IntKind.i64.wrap (1099511627776 - n) < xs[i]
      · left
        simp [L13_0, h1, h1', h2, h3, idxOk, hx]
      · have := ih (i + 1) (IntKind.i64.wrap (n + xs[i])) (by omega)
        rw [← hw] at this
        simpa [L13_0, h1, h1', h2, h3, idxOk, hx] using this

theorem ev13 (n : Int) (xs : List Int) (hl : xs.length ≤ 1000) (own : Bool) : ∃ r, ev tab prim 13 [.int .i64 n, .list 1 (ints xs) own] [[], []] = some (.int .i64 r, [[], []]) := by
  rw [ev_fn' tab prim (f := 13) rfl _ _ rfl]
  rcases sumLoop xs hl xs.length 0 n (by omega) with h | ⟨n', h⟩
  · refine ⟨1099511627776, ?_⟩
    simp only [Int.natCast_zero] at h
    simp [h]
  · refine ⟨n', ?_⟩
    simp only [Int.natCast_zero] at h
    simp [h]

end Go.Proofs.YtpmpofcokkgfdaaGreatDoor.Ev

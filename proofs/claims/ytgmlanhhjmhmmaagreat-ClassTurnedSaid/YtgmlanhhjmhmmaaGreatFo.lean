/- A method's type, as the document tells it; the law of both. -/
import Derived.Test.YtgmlanhhjmhmmaaGreatFn
namespace Go.Proofs.YtgmlanhhjmhmmaaGreat.Ev
open Go

def rSt (acc : List V) (rest : List UInt8) : St := { env := [(0, .str rest), (5, .list 1 acc true)], mem := [[], [], []] }
def rFail : Res := some (.ret, { env := [(2, .list 1 [] true), (3, .str []), (4, .int .i64 6)], mem := [[], [], []] })
def stopB : List UInt8 → Bool
  | [] => true
  | c :: _ => c == 41

set_option maxHeartbeats 4000000 in
theorem r_stop (acc : List V) (rest : List UInt8) (h : stopB rest = true) : cv tab prim L48_0 (rSt acc rest) = some (.exit 0, rSt acc rest) := by
  cases rest with
  | nil => simp [L48_0, rSt]
  | cons c q =>
    obtain rfl : c = 41 := by simpa [stopB] using h
    simp [L48_0, rSt, idxOk]

theorem stop_fr {rest : List UInt8} (h : stopB rest = true) : fr 0 rest = 0 := by
  cases rest with
  | nil => rfl
  | cons c q =>
    obtain rfl : c = 41 := by simpa [stopB] using h
    simp [fr, body]

set_option maxHeartbeats 4000000 in
theorem r_fail (acc : List V) (rest : List UInt8) (hs : rest.length ≤ 100000) (h : stopB rest = false) (he : fr 0 rest = 0 ∨ acc.length = 8) : cv tab prim L48_0 (rSt acc rest) = rFail := by
  cases rest with
  | nil => simp [stopB] at h
  | cons c q =>
    have hc : c ≠ 41 := by simpa [stopB] using h
    have e1 : ((c.toNat : Int) == 41) = false := u8ne (n := 41) (by omega) hc
    have h50 := ev47 (c :: q) hs
    by_cases hf : fr 0 (c :: q) = 0
    · rw [hf] at h50
      simp [L48_0, rSt, rFail, idxOk, bne, e1, h50]
    · have e0 : ((fr 0 (c :: q) : Int) == 0) = false := by rw [ieq]; simp; omega
      have e8 : ((acc.length : Int) == 8) = true := by rw [ieq]; simp; omega
      generalize fr 0 (c :: q) = n at h50 e0
      simp [L48_0, rSt, rFail, idxOk, bne, e1, h50, e0, e8]

set_option maxHeartbeats 4000000 in
theorem r_more (acc : List V) (rest : List UInt8) (hs : rest.length ≤ 100000) (h : stopB rest = false) (hf : fr 0 rest ≠ 0) (ha : acc.length < 8) :
    cv tab prim L48_0 (rSt acc rest) = some (.normal, rSt (acc ++ [.str (rest.take (fr 0 rest))]) (rest.drop (fr 0 rest))) := by
  cases rest with
  | nil => simp [stopB] at h
  | cons c q =>
    have hc : c ≠ 41 := by simpa [stopB] using h
    have e1 : ((c.toNat : Int) == 41) = false := u8ne (n := 41) (by omega) hc
    have h50 := ev47 (c :: q) hs
    have hl := fr_le 0 (c :: q)
    have e0 : ((fr 0 (c :: q) : Int) == 0) = false := by rw [ieq]; simp; omega
    have e8 : ((acc.length : Int) == 8) = false := by rw [ieq]; simp; omega
    have a2 : (acc.length + 1) * 16 ≤ 140737488355328 := by omega
    have a3 : acc.length + 1 ≤ 140737488355328 := by omega
    generalize fr 0 (c :: q) = n at h50 e0 hl ⊢
    rw [List.length_cons] at hl
    have l1 : (n : Int) ≤ (q.length : Int) + 1 := by omega
    simp [L48_0, rSt, idxOk, bne, e1, h50, e0, e8, l1, hl, a2, a3]

theorem refMeth : ∀ (k : Nat) (acc : List V) (rest : List UInt8), acc.length + k = 8 → rest.length ≤ 100000 → cv tab prim (.loop L48_0) (rSt acc rest) =
    if stopB (prm k rest).2 = true then some (.exit 0, rSt (acc ++ (prm k rest).1.map .str) (prm k rest).2) else rFail := by
  intro k
  induction k with
  | zero =>
    intro acc rest ha hs
    rw [cv_loop']
    cases h : stopB rest with
    | true => rw [r_stop acc rest h]; simp [prm, h]
    | false => rw [r_fail acc rest hs h (.inr (by omega))]; simp [prm, h, rFail]
  | succ k ih =>
    intro acc rest ha hs
    rw [cv_loop']
    by_cases hf : fr 0 rest = 0
    · have hp : prm (k + 1) rest = ([], rest) := by rw [prm, if_pos hf]
      rw [hp]
      cases h : stopB rest with
      | true => rw [r_stop acc rest h]; simp [h]
      | false => rw [r_fail acc rest hs h (.inl hf)]; simp [h, rFail]
    · have h : stopB rest = false := by
        cases hh : stopB rest with
        | false => rfl
        | true => exact absurd (stop_fr hh) hf
      have hp : prm (k + 1) rest = (rest.take (fr 0 rest) :: (prm k (rest.drop (fr 0 rest))).1, (prm k (rest.drop (fr 0 rest))).2) := by rw [prm, if_neg hf]
      rw [hp, r_more acc rest hs h hf (by omega), roundK_n, ih _ _ (by simp; omega) (by rw [List.length_drop]; omega)]
      simp

set_option maxHeartbeats 8000000 in
theorem ev48 (s : List UInt8) (hs : s.length ≤ 100000) : ev tab prim 48 [.str s] [[], []] = some (methV s, [[], []]) := by
  rw [ev_fn' tab prim (f := 48) rfl _ _ rfl]
  cases s with
  | nil =>
    have : methV [] = .tup [.list 1 [] true, .str [], .int .i64 6] := by simp [methV, cut]
    rw [this]; simp
  | cons a r =>
    rw [List.length_cons] at hs
    have l1 : (1 : Int) ≤ (r.length : Int) + 1 := by omega
    by_cases ha : a = 40
    · subst ha
      have h := refMeth 8 [] r rfl (by omega)
      have hle := prm_le 8 r
      have hv : methV (40 :: r) = if tailOk (prm 8 r).2 = true then .tup [.list 1 ((prm 8 r).1.map .str) true, .str (cut 41 (prm 8 r).2).1, .int .i64 0] else .tup [.list 1 [] true, .str [], .int .i64 6] := by
        simp [methV, cut]
      rw [hv]
      generalize (prm 8 r).1.map V.str = ps at h
      generalize (prm 8 r).2 = rest at h hle
      simp only [List.nil_append, rSt, rFail] at h
      cases rest with
      | nil =>
        have ht : tailOk [] = false := by simp [tailOk, cut]
        simp only [stopB, if_true] at h
        rw [ht]; simp [idxOk, l1, h]
      | cons c q =>
        by_cases hc : c = 41
        · subst hc
          have h41 : stopB (41 :: q) = true := by simp [stopB]
          rw [if_pos h41] at h
          have ht : tailOk (41 :: q) = (q == [86] || typeOk q) := by simp [tailOk, cut]
          have hcut : (cut 41 (41 :: q)).1 = q := by simp [cut]
          rw [List.length_cons] at hle
          have h23 := ev19 q (by omega)
          have l2 : (1 : Int) ≤ (q.length : Int) + 1 := by omega
          rw [ht, hcut]
          cases hv : q == [86]
          · cases hty : typeOk q <;> rw [hty] at h23 <;> simp [idxOk, l1, l2, h, h23, hv]
          · simp [idxOk, l1, l2, h, hv]
        · have h41 : stopB (c :: q) = false := by simp [stopB, hc]
          rw [if_neg (by rw [h41]; simp)] at h
          have ht : tailOk (c :: q) = false := by simp [tailOk, cut, hc]
          rw [ht]; simp [idxOk, l1, h]
    · have e1 : ((a.toNat : Int) == 40) = false := u8ne (n := 40) (by omega) ha
      have : methV (a :: r) = .tup [.list 1 [] true, .str [], .int .i64 6] := by simp [methV, cut, ha]
      rw [this]; simp [idxOk, bne, e1]

end Go.Proofs.YtgmlanhhjmhmmaaGreat.Ev

/- The law of arrays. -/
import Derived.Test.YtgggjclhadlncaaFm
namespace Go.Proofs.Ytgggjclhadlncaa.Ev
open Go

def tI (s : List UInt8) (i : Nat) : List UInt8 := List.replicate i 91 ++ s
theorem tI_succ (s : List UInt8) (i : Nat) : tI s (i + 1) = 91 :: tI s i := rfl

section
variable {s : List UInt8} (ht : typeOk s = true) (h0 : s.head? ≠ some 91)
include ht h0

theorem tI_lead (i : Nat) : lead (tI s i) = i := by
  induction i with
  | zero =>
    cases s with
    | nil => rfl
    | cons c r =>
      have : c ≠ 91 := by intro h; apply h0; rw [h]; rfl
      simp [tI, lead, this]
  | succ i ih => rw [tI_succ, lead, if_pos rfl, ih]

omit ht h0 in
theorem tI_drop (i : Nat) : (tI s i).drop i = s := by
  induction i with
  | zero => rfl
  | succ i ih => rw [tI_succ, List.drop_succ_cons, ih]

theorem tI_type (i : Nat) : typeOk (tI s i) = decide (i ≤ 4) := by
  have hne : s ≠ [] := by rintro rfl; rw [typeOk_nil] at ht; cases ht
  have hlen : (tI s i).length = i + s.length := by simp [tI]
  have hs : 0 < s.length := by cases s with | nil => exact absurd rfl hne | cons => simp
  have hb : body s = s.length := by
    have h1 := fr_lead s 0
    have h2 : lead s = 0 := tI_lead ht h0 0
    unfold typeOk at ht
    rw [Bool.and_eq_true] at ht
    have h3 : fr 0 s = s.length := of_decide_eq_true ht.2
    rw [h2, List.drop_zero, h3] at h1
    split at h1 <;> omega
  have h := fr_lead (tI s i) 0
  rw [tI_lead ht h0, tI_drop, hb, hlen] at h
  have he : (tI s i).isEmpty = false := by
    cases hh : tI s i with
    | nil => rw [hh] at hlen; simp at hlen; omega
    | cons => rfl
  unfold typeOk
  rw [he, h, hlen]
  by_cases hi : i ≤ 4
  · rw [if_neg (by omega)]; simp [hi]
  · rw [if_pos (by omega)]; simp [hi]; omega

end

def aSt (s : List UInt8) (n : Int) (i : Nat) : St := { env := [(0, .str s), (1, .int .i64 n), (5, .str (tI s i)), (6, .int .i64 (i : Int))], mem := [[]] }

section
variable {s : List UInt8} (hs : s.length ≤ 300) (ht : typeOk s = true) (h0 : s.head? ≠ some 91)
include hs ht h0

set_option maxHeartbeats 4000000 in
theorem a_more (n : Int) (i : Nat) (hi : (i : Int) < n) (h4 : i < 4) : cv tab prim L6_0 (aSt s n i) = some (.normal, aSt s n (i + 1)) := by
  have hlen : (tI s i).length = i + s.length := by simp [tI]
  have h24 := ev24 (tI s i) (by omega)
  have t5 := tI_type ht h0 (i + 1)
  rw [decide_eq_true (by omega), tI_succ] at t5
  have harr : arrV (tI s i) = 91 :: tI s i := by unfold arrV; rw [if_pos t5]
  rw [harr] at h24
  have h25 := ev25 (91 :: tI s i) (by rw [List.length_cons]; omega)
  have hel : elemV (91 :: tI s i) = .tup [.str (tI s i), .bool true] := by unfold elemV; simp [t5]
  rw [hel] at h25
  have h26 := ev26 (91 :: tI s i) (by rw [List.length_cons]; omega)
  have hrf : refOk (91 :: tI s i) = true := by unfold refOk; rw [t5]; simp
  rw [hrf] at h26
  have h27 := ev27 (91 :: tI s i) (by rw [List.length_cons]; omega)
  have hcl : classV (91 :: tI s i) = [] := by unfold classV; split <;> simp_all
  rw [hcl] at h27
  have g4 : ¬ (4 : Int) ≤ (i : Int) := by omega
  have hw : IntKind.i64.wrap ((i : Int) + 1) = (i : Int) + 1 := wrap_small (by omega) (by omega)
  unfold aSt
  rw [tI_succ]
  generalize tI s i = t at h24 h25 h26 h27 ⊢
  simp [L6_0, hi, h24, h25, h26, h27, g4, hw]

set_option maxHeartbeats 4000000 in
theorem a_max (n : Int) (hi : 4 < n) : cv tab prim L6_0 (aSt s n 4) = some (.ret, { env := [(4, .bool true)], mem := [[]] }) := by
  have hlen : (tI s 4).length = 4 + s.length := by simp [tI]; omega
  have h24 := ev24 (tI s 4) (by omega)
  have t5 := tI_type ht h0 5
  rw [decide_eq_false (by omega), tI_succ] at t5
  have harr : arrV (tI s 4) = [] := by unfold arrV; rw [if_neg (by rw [t5]; simp)]
  rw [harr] at h24
  unfold aSt
  generalize tI s 4 = t at h24 ⊢
  simp [L6_0, hi, h24, ev12]

omit hs ht h0 in
theorem a_end (i : Nat) : cv tab prim L6_0 (aSt s (i : Int) i) = some (.exit 0, { env := [(0, .str s), (5, .str (tI s i))], mem := [[]] }) := by
  unfold aSt
  simp [L6_0]

theorem arrLoop (n : Nat) : ∀ (k i : Nat), i + k = n → i ≤ 4 → cv tab prim (.loop L6_0) (aSt s (n : Int) i) =
    if n ≤ 4 then some (.exit 0, { env := [(0, .str s), (5, .str (tI s n))], mem := [[]] }) else some (.ret, { env := [(4, .bool true)], mem := [[]] }) := by
  intro k
  induction k with
  | zero =>
    intro i hi h4
    obtain rfl : i = n := by omega
    rw [cv_loop', a_end, if_pos h4, roundK_e]
  | succ k ih =>
    intro i hi h4
    rw [cv_loop']
    by_cases h : i = 4
    · subst h
      rw [a_max hs ht h0 _ (by omega), if_neg (by omega), roundK_r]
    · rw [a_more hs ht h0 _ i (by omega) (by omega), roundK_n, ih (i + 1) (by omega) (by omega)]

end

set_option maxHeartbeats 4000000 in
theorem ev6 (s : List UInt8) (n : Int) : ev tab prim 6 [.str s, .int .i64 n] [] = some (.bool true, []) := by
  rw [ev_fn' tab prim (f := 6) rfl _ _ rfl]
  by_cases g1 : 300 < s.length
  · have g1' : (300 : Int) < (s.length : Int) := by omega
    simp [g1', ev12]
  have g1' : ¬ (300 : Int) < (s.length : Int) := by omega
  by_cases g2 : n < 0
  · simp [g1', g2, ev12]
  by_cases g3 : 10 < n
  · simp [g1', g2, g3, ev12]
  have h23 := ev23 s (by omega)
  cases ht : typeOk s with
  | false => rw [ht] at h23; simp [g1', g2, g3, h23, ev12]
  | true =>
    rw [ht] at h23
    cases s with
    | nil => rw [typeOk_nil] at ht; cases ht
    | cons c r =>
      by_cases hc : c = 91
      · subst hc
        have l1 : (1 : Int) ≤ (r.length : Int) + 1 := by omega
        rw [List.length_cons] at g1
        have g1'' : ¬ (300 : Int) < (r.length : Int) + 1 := by omega
        simp [g1'', g2, g3, h23, ev12, idxOk, l1]
      · have e1 : ((c.toNat : Int) == 91) = false := u8ne (n := 91) (by omega) hc
        have h0 : (c :: r).head? ≠ some 91 := by simp [hc]
        obtain ⟨k, rfl⟩ : ∃ k : Nat, n = k := ⟨n.toNat, by omega⟩
        have h := arrLoop (s := c :: r) (by omega) ht h0 k k 0 (by omega) (by omega)
        have h25 := ev25 (c :: r) (by omega)
        have hel : elemV (c :: r) = .tup [.str [], .bool false] := by unfold elemV; split <;> simp_all
        rw [hel] at h25
        have htl : (tI (c :: r) k).length = k + (c :: r).length := by simp [tI]
        have h28 := ev28 (tI (c :: r) k) (by omega)
        rw [tI_type ht h0 k] at h28
        have hz : tI (c :: r) 0 = c :: r := rfl
        simp only [aSt, hz, Int.natCast_zero] at h
        have l1 : (1 : Int) ≤ (r.length : Int) + 1 := by omega
        have g1'' : ¬ (300 : Int) < (r.length : Int) + 1 := by rw [List.length_cons] at g1; omega
        by_cases h4 : k ≤ 4
        · rw [if_pos h4] at h
          rw [decide_eq_true h4] at h28
          generalize tI (c :: r) k = t at h h28
          simp [g1'', g2, g3, h23, ev12, idxOk, l1, e1, h, h25, h28]
        · rw [if_neg h4] at h
          simp [g1'', g2, g3, h23, ev12, idxOk, l1, e1, h]

end Go.Proofs.Ytgggjclhadlncaa.Ev

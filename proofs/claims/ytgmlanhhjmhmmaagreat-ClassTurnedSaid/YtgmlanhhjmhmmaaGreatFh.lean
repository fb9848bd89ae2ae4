/- Names. -/
import Derived.Test.YtgmlanhhjmhmmaaGreatFc
namespace Go.Proofs.YtgmlanhhjmhmmaaGreat.Ev
open Go

def lett (c : Int) : Bool := (decide (97 ≤ c) && decide (c ≤ 122)) || (decide (65 ≤ c) && decide (c ≤ 90)) || c == 95
def okB (i : Nat) (b : UInt8) : Bool := lett b.toNat || (decide (i ≠ 0) && decide (48 ≤ (b.toNat : Int)) && decide ((b.toNat : Int) ≤ 57))
def allOk : Nat → List UInt8 → Bool
  | _, [] => true
  | i, b :: r => okB i b && allOk (i + 1) r
def nameOk (s : List UInt8) : Bool := allOk 0 s && !s.isEmpty && decide (s.length ≤ 30)

theorem ieq (a b : Int) : (a == b) = decide (a = b) := by rw [Bool.eq_iff_iff]; simp

theorem allOk_at {s : List UInt8} {i : Nat} (h : i < s.length) : allOk i (s.drop i) = (okB i s[i] && allOk (i + 1) (s.drop (i + 1))) := by
  rw [List.drop_eq_getElem_cons h, allOk]

def nameSt (s : List UInt8) (i : Nat) : St := { env := [(0, .str s), (7, .int .i64 (s.length : Int)), (8, .int .i64 (i : Int))], mem := [[], [], []] }
def refSt (s : List UInt8) (i : Nat) : St := { env := [(0, .str s), (3, .int .i64 (i : Int))], mem := [[], [], []] }

set_option maxHeartbeats 4000000 in
theorem nameRound (s : List UInt8) (i : Nat) (hl : s.length ≤ 1000000) (hi : i < s.length) :
    cv tab prim L52_0 (nameSt s i) = if okB i s[i] = true then some (.normal, nameSt s (i + 1)) else some (.ret, { env := [(2, .bool false)], mem := [[], [], []] }) := by
  have h1 : (i : Int) < (s.length : Int) := by omega
  have hw : IntKind.i64.wrap ((i : Int) + 1) = ((i : Int) + 1) := wrap_small (by omega) (by omega)
  have hx : s[i]? = some s[i] := List.getElem?_eq_getElem hi
  generalize s[i] = b at hx ⊢
  obtain ⟨c, hc⟩ : ∃ c : Int, (b.toNat : Int) = c := ⟨_, rfl⟩
  unfold okB nameSt
  rw [hc]
  have w1 : IntKind.i64.wrap 1 = 1 := wrap_small (by omega) (by omega)
  rcases Nat.eq_zero_or_pos i with hz | hz
  · subst hz
    replace h1 : 0 < s.length := hi
    have hx' : s[0] = b := by rw [List.getElem?_eq_getElem h1] at hx; injection hx
    have hne : s ≠ [] := by intro h; rw [h] at h1; cases h1
    by_cases h97 : 97 ≤ c <;> by_cases h122 : c ≤ 122 <;> by_cases h65 : 65 ≤ c <;> by_cases h90 : c ≤ 90 <;> by_cases h95 : c = 95 <;> by_cases h48 : c < 48 <;> by_cases h57 : 57 < c <;>
      first
      | (exfalso; omega)
      | (simp [L52_0, h1, idxOk, hx, hc, h97, h122, h65, h90, h95, h48, h57, w1, hx', hne, ieq, lett]; done)
      | (simp [L52_0, h1, idxOk, hx, hc, h97, h122, h65, h90, h95, h48, h57, w1, hx', hne, ieq, lett]; omega)
  · replace hz : ¬ i = 0 := by omega
    have hz' : ((i : Int) == 0) = false := by simp; omega
    by_cases h97 : 97 ≤ c <;> by_cases h122 : c ≤ 122 <;> by_cases h65 : 65 ≤ c <;> by_cases h90 : c ≤ 90 <;> by_cases h95 : c = 95 <;> by_cases h48 : c < 48 <;> by_cases h57 : 57 < c <;>
      first
      | (exfalso; omega)
      | (simp [L52_0, h1, idxOk, hx, hc, h97, h122, h65, h90, h95, h48, h57, hw, w1, hz, hz', ieq, lett]; done)
      | (simp [L52_0, h1, idxOk, hx, hc, h97, h122, h65, h90, h95, h48, h57, hw, w1, hz, hz', ieq, lett]; omega)

theorem nameEnd (s : List UInt8) : cv tab prim L52_0 (nameSt s s.length) = some (.exit 0, { env := [(0, .str s)], mem := [[], [], []] }) := by
  simp [L52_0, nameSt]

theorem nameLoop (s : List UInt8) (hl : s.length ≤ 1000000) : ∀ (k i : Nat), i + k = s.length → cv tab prim (.loop L52_0) (nameSt s i) =
    if allOk i (s.drop i) = true then some (.exit 0, { env := [(0, .str s)], mem := [[], [], []] }) else some (.ret, { env := [(2, .bool false)], mem := [[], [], []] }) := by
  intro k
  induction k with
  | zero =>
    intro i hi
    obtain rfl : i = s.length := by omega
    rw [cv_loop', nameEnd, List.drop_length]
    simp [allOk]
  | succ k ih =>
    intro i hi
    have hlt : i < s.length := by omega
    rw [cv_loop', nameRound s i hl hlt, allOk_at hlt]
    by_cases hb : okB i s[i] = true
    · rw [if_pos hb, roundK_n, ih (i + 1) (by omega), hb, Bool.true_and]
    · rw [if_neg hb, roundK_r, if_neg (by rw [Bool.and_eq_true]; exact fun h => hb h.1)]

theorem isEmpty_eq (s : List UInt8) : (s == ([] : List UInt8)) = s.isEmpty := by cases s <;> rfl

theorem ev52 (s : List UInt8) (hl : s.length ≤ 1000000) : ev tab prim 52 [.str s] [[], []] = some (.bool (nameOk s), [[], []]) := by
  rw [ev_fn' tab prim (f := 52) rfl _ _ rfl]
  have h := nameLoop s hl s.length 0 (by omega)
  simp only [nameSt, List.drop_zero, Int.natCast_zero] at h
  unfold nameOk
  cases ho : allOk 0 s <;> rw [ho] at h
  · simp [h]
  · cases he : s.isEmpty
    · simp [h, he]; omega
    · simp [h, he]

set_option maxHeartbeats 4000000 in
theorem refRound (s : List UInt8) (i : Nat) (hl : s.length ≤ 1000000) (hi : i < s.length) :
    cv tab prim L18_0 (refSt s i) = if okB i s[i] = true then some (.normal, refSt s (i + 1)) else some (.ret, { env := [(2, .bool false)], mem := [[], [], []] }) := by
  have h1 : (i : Int) < (s.length : Int) := by omega
  have hw : IntKind.i64.wrap ((i : Int) + 1) = ((i : Int) + 1) := wrap_small (by omega) (by omega)
  have hx : s[i]? = some s[i] := List.getElem?_eq_getElem hi
  generalize s[i] = b at hx ⊢
  obtain ⟨c, hc⟩ : ∃ c : Int, (b.toNat : Int) = c := ⟨_, rfl⟩
  unfold okB refSt
  rw [hc]
  have w1 : IntKind.i64.wrap 1 = 1 := wrap_small (by omega) (by omega)
  rcases Nat.eq_zero_or_pos i with hz | hz
  · subst hz
    replace h1 : 0 < s.length := hi
    have hx' : s[0] = b := by rw [List.getElem?_eq_getElem h1] at hx; injection hx
    have hne : s ≠ [] := by intro h; rw [h] at h1; cases h1
    by_cases h97 : 97 ≤ c <;> by_cases h122 : c ≤ 122 <;> by_cases h65 : 65 ≤ c <;> by_cases h90 : c ≤ 90 <;> by_cases h95 : c = 95 <;> by_cases h48 : c < 48 <;> by_cases h57 : 57 < c <;>
      first
      | (exfalso; omega)
      | (simp [L18_0, h1, idxOk, hx, hc, h97, h122, h65, h90, h95, h48, h57, w1, hx', hne, ieq, lett]; done)
      | (simp [L18_0, h1, idxOk, hx, hc, h97, h122, h65, h90, h95, h48, h57, w1, hx', hne, ieq, lett]; omega)
  · replace hz : ¬ i = 0 := by omega
    have hz' : ((i : Int) == 0) = false := by simp; omega
    by_cases h97 : 97 ≤ c <;> by_cases h122 : c ≤ 122 <;> by_cases h65 : 65 ≤ c <;> by_cases h90 : c ≤ 90 <;> by_cases h95 : c = 95 <;> by_cases h48 : c < 48 <;> by_cases h57 : 57 < c <;>
      first
      | (exfalso; omega)
      | (simp [L18_0, h1, idxOk, hx, hc, h97, h122, h65, h90, h95, h48, h57, hw, w1, hz, hz', ieq, lett]; done)
      | (simp [L18_0, h1, idxOk, hx, hc, h97, h122, h65, h90, h95, h48, h57, hw, w1, hz, hz', ieq, lett]; omega)

theorem refEnd (s : List UInt8) : cv tab prim L18_0 (refSt s s.length) = some (.exit 0, { env := [(0, .str s)], mem := [[], [], []] }) := by
  simp [L18_0, refSt]

theorem refLoop (s : List UInt8) (hl : s.length ≤ 1000000) : ∀ (k i : Nat), i + k = s.length → cv tab prim (.loop L18_0) (refSt s i) =
    if allOk i (s.drop i) = true then some (.exit 0, { env := [(0, .str s)], mem := [[], [], []] }) else some (.ret, { env := [(2, .bool false)], mem := [[], [], []] }) := by
  intro k
  induction k with
  | zero =>
    intro i hi
    obtain rfl : i = s.length := by omega
    rw [cv_loop', refEnd, List.drop_length]
    simp [allOk]
  | succ k ih =>
    intro i hi
    have hlt : i < s.length := by omega
    rw [cv_loop', refRound s i hl hlt, allOk_at hlt]
    by_cases hb : okB i s[i] = true
    · rw [if_pos hb, roundK_n, ih (i + 1) (by omega), hb, Bool.true_and]
    · rw [if_neg hb, roundK_r, if_neg (by rw [Bool.and_eq_true]; exact fun h => hb h.1)]

theorem ev18 (s : List UInt8) (hl : s.length ≤ 1000000) : ev tab prim 18 [.str s] [[], []] = some (.bool (nameOk s), [[], []]) := by
  rw [ev_fn' tab prim (f := 18) rfl _ _ rfl]
  have h := refLoop s hl s.length 0 (by omega)
  simp only [refSt, List.drop_zero, Int.natCast_zero] at h
  unfold nameOk
  cases ho : allOk 0 s <;> rw [ho] at h
  · simp [h]
  · cases he : s.isEmpty
    · have h1 : 1 ≤ s.length := by cases s with | nil => cases he | cons => simp
      have h1' : 1 ≤ (s.length : Int) := by omega
      simp [h, he, h1, h1']; omega
    · have h1 : s = [] := by simpa using he
      subst h1
      simp [h, allOk]

end Go.Proofs.YtgmlanhhjmhmmaaGreat.Ev

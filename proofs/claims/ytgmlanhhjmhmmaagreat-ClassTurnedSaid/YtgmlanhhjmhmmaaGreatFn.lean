/- A method's type, as desc tells it. -/
import Derived.Test.YtgmlanhhjmhmmaaGreatFm
namespace Go.Proofs.YtgmlanhhjmhmmaaGreat.Ev
open Go

def cut (c : UInt8) (s : List UInt8) : List UInt8 × Bool := match s with
  | a :: r => if a = c then (r, true) else (a :: r, false)
  | [] => ([], false)

theorem cut_le (c : UInt8) (s : List UInt8) : (cut c s).1.length ≤ s.length := by
  cases s with
  | nil => simp [cut]
  | cons a q =>
    by_cases h : a = c
    · simp [cut, h]
    · simp [cut, h]

theorem ev113 (s : List UInt8) (c : UInt8) : ev tab prim 113 [.str s, .str [c]] [[], []] = some (.bool (cut c s).2, [[], []]) := by
  rw [ev_fn' tab prim (f := 113) rfl _ _ rfl]
  cases s with
  | nil => simp [cut]
  | cons a r =>
    have l1 : (1 : Int) ≤ (r.length : Int) + 1 := by omega
    by_cases h : a = c
    · subst h; simp [cut, l1]
    · have e : ([a] == [c]) = false := by simp [h]
      simp [cut, l1, h, e]
theorem ev112 (s : List UInt8) (c : UInt8) : ev tab prim 112 [.str s, .str [c]] [[], []] = some (.tup [.str (cut c s).1, .bool (cut c s).2], [[], []]) := by
  rw [ev_fn' tab prim (f := 112) rfl _ _ rfl]
  have h62 := ev113 s c
  cases s with
  | nil => simp only [cut] at h62; simp [cut, h62]
  | cons a r =>
    have l1 : (1 : Int) ≤ (r.length : Int) + 1 := by omega
    by_cases h : a = c
    · subst h; simp only [cut, if_true] at h62; simp [cut, l1, h62]
    · simp only [cut, if_neg h] at h62; simp [cut, h, h62]
theorem ev106 (s : List UInt8) (c : UInt8) : ev tab prim 106 [.str s, .str [c]] [[], []] = some (.tup [.str (cut c s).1, .bool (cut c s).2], [[], []]) := by
  rw [ev_fn' tab prim (f := 106) rfl _ _ rfl]
  simp [ev112]

def prm : Nat → List UInt8 → List (List UInt8) × List UInt8
  | 0, s => ([], s)
  | k + 1, s => if fr 0 s = 0 then ([], s) else (s.take (fr 0 s) :: (prm k (s.drop (fr 0 s))).1, (prm k (s.drop (fr 0 s))).2)

theorem prm_le (k : Nat) : ∀ s, (prm k s).2.length ≤ s.length := by
  induction k with
  | zero => intro s; exact Nat.le_refl _
  | succ k ih =>
    intro s
    unfold prm
    split
    · exact Nat.le_refl _
    · have := ih (s.drop (fr 0 s)); rw [List.length_drop] at this; simp only; omega

def mSt (acc : List V) (rest : List UInt8) (ok : Bool) : St := { env := [(2, .list 1 acc true), (5, .str rest), (6, .bool ok)], mem := [[], [], []] }
def tailOk (rest : List UInt8) : Bool := (cut 41 rest).2 && ((cut 41 rest).1 == [86] || typeOk (cut 41 rest).1)
def mFin (ok : Bool) (acc : List V) (rest : List UInt8) : Res :=
  if (ok && tailOk rest) = true then some (.ret, { env := [(2, .list 1 acc true), (3, .str (cut 41 rest).1), (4, .int .i64 0)], mem := [[], [], []] })
  else some (.ret, { env := [(2, .list 1 [] true), (3, .str []), (4, .int .i64 6)], mem := [[], [], []] })

theorem next_parts (s : List UInt8) : ∃ t r, nextV s = .tup [.str t, .str r] ∧ t ++ r = s ∧ t.isEmpty = decide (fr 0 s = 0) ∧ (fr 0 s ≠ 0 → t = s.take (fr 0 s) ∧ r = s.drop (fr 0 s)) := by
  unfold nextV
  by_cases hf : fr 0 s = 0
  · refine ⟨[], s, by rw [if_pos hf], rfl, by simp [hf], fun h => absurd hf h⟩
  · refine ⟨s.take (fr 0 s), s.drop (fr 0 s), by rw [if_neg hf], List.take_append_drop _ _, ?_, fun _ => ⟨rfl, rfl⟩⟩
    have h1 : s ≠ [] := by rintro rfl; simp [fr] at hf
    rw [decide_eq_false hf]
    cases s with
    | nil => exact absurd rfl h1
    | cons c r => cases hh : fr 0 (c :: r) with
      | zero => exact absurd hh hf
      | succ n => rfl

set_option maxHeartbeats 4000000 in
theorem m_more (acc : List V) (rest : List UInt8) (ok : Bool) (hs : rest.length ≤ 100000) (ha : acc.length < 8) (hf : fr 0 rest ≠ 0) :
    cv tab prim K96_0 (mSt acc rest ok) = some (.goto 0, mSt (acc ++ [.str (rest.take (fr 0 rest))]) (rest.drop (fr 0 rest)) ok) := by
  obtain ⟨t, r, hn, hap, ht, htr⟩ := next_parts rest
  obtain ⟨rfl, rfl⟩ := htr hf
  have h49 := ev82 rest hs
  rw [hn] at h49
  rw [decide_eq_false hf] at ht
  generalize rest.take (fr 0 rest) = t at h49 ht ⊢
  generalize rest.drop (fr 0 rest) = r at h49 ⊢
  have a1 : (acc.length : Int) < 8 := by omega
  have a2 : (acc.length + 1) * 16 ≤ 140737488355328 := by omega
  have a3 : acc.length + 1 ≤ 140737488355328 := by omega
  simp [K96_0, mSt, h49, ht, a1, a2, a3]

set_option maxHeartbeats 8000000 in
theorem m_end (acc : List V) (rest : List UInt8) (ok : Bool) (hs : rest.length ≤ 100000) (he : fr 0 rest = 0 ∨ 8 ≤ acc.length) :
    cv tab prim K96_0 (mSt acc rest ok) = mFin ok acc rest := by
  obtain ⟨t, r, hn, hap, ht, -⟩ := next_parts rest
  have h49 := ev82 rest hs
  rw [hn] at h49
  have hc : (cut 41 rest).1.length ≤ 100000 := Nat.le_trans (cut_le 41 rest) hs
  have h48 := ev106 rest 41
  have h28 := ev55 (cut 41 rest).1 hc
  have hlen : t.length + r.length ≤ 9223372036854775807 := by rw [← List.length_append, hap]; omega
  unfold mFin tailOk
  generalize (cut 41 rest).1 = q at h48 h28 ⊢
  generalize (cut 41 rest).2 = b at h48 ⊢
  by_cases hf : fr 0 rest = 0
  · rw [decide_eq_true hf] at ht
    cases ok
    · simp [K96_0, mSt, h49, ht, hlen, hap, h48]
    · cases b
      · simp [K96_0, mSt, h49, ht, hlen, hap, h48]
      · cases hv : q == [86]
        · cases hty : typeOk q <;> rw [hty] at h28 <;> simp [K96_0, mSt, h49, ht, hlen, hap, h48, h28, hv]
        · simp [K96_0, mSt, h49, ht, hlen, hap, h48, hv]
  · rw [decide_eq_false hf] at ht
    have a1 : ¬ (acc.length : Int) < 8 := by rcases he with h | h <;> omega
    cases ok
    · simp [K96_0, mSt, h49, ht, a1, hlen, hap, h48]
    · cases b
      · simp [K96_0, mSt, h49, ht, a1, hlen, hap, h48]
      · cases hv : q == [86]
        · cases hty : typeOk q <;> rw [hty] at h28 <;> simp [K96_0, mSt, h49, ht, a1, hlen, hap, h48, h28, hv]
        · simp [K96_0, mSt, h49, ht, a1, hlen, hap, h48, hv]

theorem findK14 : findL S96_0 0 = some (.seq .skip K96_0) := by rfl

theorem methLoop (ok : Bool) : ∀ (k : Nat) (acc : List V) (rest : List UInt8), acc.length + k = 8 → rest.length ≤ 100000 →
    cj tab prim S96_0 (cv tab prim K96_0 (mSt acc rest ok)) = mFin ok (acc ++ (prm k rest).1.map .str) (prm k rest).2 := by
  intro k
  induction k with
  | zero =>
    intro acc rest ha hs
    rw [m_end acc rest ok hs (.inr (by omega))]
    simp only [prm, List.map_nil, List.append_nil]
    unfold mFin; split <;> rw [cj_r]
  | succ k ih =>
    intro acc rest ha hs
    by_cases hf : fr 0 rest = 0
    · rw [m_end acc rest ok hs (.inl hf)]
      have : prm (k + 1) rest = ([], rest) := by rw [prm, if_pos hf]
      simp only [this, List.map_nil, List.append_nil]
      unfold mFin; split <;> rw [cj_r]
    · rw [m_more acc rest ok hs (by omega) hf, cj_g tab prim S96_0 _ 0 findK14, cv_seq', cv_skip, seqK_n, ih _ _ (by simp; omega) (by rw [List.length_drop]; omega)]
      have : prm (k + 1) rest = (rest.take (fr 0 rest) :: (prm k (rest.drop (fr 0 rest))).1, (prm k (rest.drop (fr 0 rest))).2) := by rw [prm, if_neg hf]
      simp [this]

/-- What a method's type is. -/
def methV (s : List UInt8) : V :=
  if ((cut 40 s).2 && tailOk (prm 8 (cut 40 s).1).2) = true then .tup [.list 1 ((prm 8 (cut 40 s).1).1.map .str) true, .str (cut 41 (prm 8 (cut 40 s).1).2).1, .int .i64 0]
  else .tup [.list 1 [] true, .str [], .int .i64 6]

theorem ev96 (s : List UInt8) (hs : s.length ≤ 100000) : ev tab prim 96 [.str s] [[], []] = some (methV s, [[], []]) := by
  rw [ev_fn' tab prim (f := 96) rfl _ _ rfl]
  have hc : (cut 40 s).1.length ≤ 100000 := Nat.le_trans (cut_le 40 s) hs
  have h := methLoop (cut 40 s).2 8 [] (cut 40 s).1 rfl hc
  have h1 : cv tab prim S96_0 { env := [(0, .str s), (2, .list 1 [] true)], mem := [[], [], []] } = cv tab prim K96_0 (mSt [] (cut 40 s).1 (cut 40 s).2) := by
    conv => lhs; unfold S96_0
    simp [mSt, ev106]
  unfold methV
  simp only [mFin, List.nil_append] at h
  split at h <;> rename_i hh
  · rw [if_pos hh]
    simp [h1, h]
  · rw [if_neg hh]
    simp [h1, h]

end Go.Proofs.YtgmlanhhjmhmmaaGreat.Ev

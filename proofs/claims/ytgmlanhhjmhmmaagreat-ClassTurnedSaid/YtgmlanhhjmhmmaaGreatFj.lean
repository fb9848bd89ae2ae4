/- The type that a text begins with, as the document tells it. -/
import Derived.Test.YtgmlanhhjmhmmaaGreatFi
namespace Go.Proofs.YtgmlanhhjmhmmaaGreat.Ev
open Go

def lead : List UInt8 → Nat
  | [] => 0
  | c :: r => if c = 91 then lead r + 1 else 0
theorem lead_le (s : List UInt8) : lead s ≤ s.length := by
  induction s with
  | nil => simp [lead]
  | cons c r ih => unfold lead; split <;> simp only [List.length_cons] <;> omega

theorem fr_lead (s : List UInt8) : ∀ d, fr d s = if 4 < d + lead s ∨ lead s = s.length ∨ body (s.drop (lead s)) = 0 then 0 else lead s + body (s.drop (lead s)) := by
  induction s with
  | nil => intro d; simp [fr, lead]
  | cons c r ih =>
    intro d
    by_cases hd : 4 < d
    · rw [fr, if_pos hd, if_pos (.inl (by omega))]
    · by_cases hc : c = 91
      · subst hc
        rw [fr, if_neg hd, if_pos rfl, ih (d + 1)]
        have hl : lead (91 :: r) = lead r + 1 := by rw [lead, if_pos rfl]
        rw [hl, List.drop_succ_cons, List.length_cons]
        by_cases hh : 4 < d + 1 + lead r ∨ lead r = r.length ∨ body (r.drop (lead r)) = 0
        · rw [if_pos hh, if_pos rfl, if_pos (by omega)]
        · rw [if_neg hh, if_neg (by omega), if_neg (by omega)]; omega
      · rw [fr, if_neg hd, if_neg hc]
        have hl : lead (c :: r) = 0 := by rw [lead, if_neg hc]
        rw [hl, List.drop_zero, List.length_cons]
        by_cases hb : body (c :: r) = 0
        · rw [if_pos (.inr (.inr hb)), hb]
        · rw [if_neg (by omega)]; omega

def b0 (s : List UInt8) (n : Nat) : St := { env := [(0, .str s), (3, .int .i64 (n : Int))], mem := [[], [], []] }
set_option maxHeartbeats 4000000 in
theorem leadLoop (s : List UInt8) (hs : s.length ≤ 100000) : ∀ (k n : Nat), n + k = s.length → cv tab prim (.loop L47_0) (b0 s n) = some (.exit 0, b0 s (n + lead (s.drop n))) := by
  intro k
  induction k with
  | zero =>
    intro n hn
    obtain rfl : n = s.length := by omega
    rw [cv_loop', List.drop_length]
    simp [L47_0, b0, lead]
  | succ k ih =>
    intro n hn
    have hlt : n < s.length := by omega
    have h1 : (n : Int) < (s.length : Int) := by omega
    have hx : s[n]? = some s[n] := List.getElem?_eq_getElem hlt
    have hw : IntKind.i64.wrap ((n : Int) + 1) = (n : Int) + 1 := wrap_small (by omega) (by omega)
    have hd : s.drop n = s[n] :: s.drop (n + 1) := List.drop_eq_getElem_cons hlt
    have i1 := ih (n + 1) (by omega)
    rw [cv_loop', hd]
    generalize s[n] = c at hx ⊢
    by_cases hc : c = 91
    · subst hc
      have hl : lead (91 :: s.drop (n + 1)) = lead (s.drop (n + 1)) + 1 := by rw [lead, if_pos rfl]
      rw [hl, show n + (lead (s.drop (n + 1)) + 1) = n + 1 + lead (s.drop (n + 1)) by omega, ← i1]
      by_cases hz : n = 0
      · subst hz
        have hx' : s[0] = 91 := by rw [List.getElem?_eq_getElem hlt] at hx; injection hx
        have hne : s ≠ [] := by intro h; rw [h] at hlt; cases hlt
        have w1 : IntKind.i64.wrap 1 = 1 := wrap_small (by omega) (by omega)
        simp [L47_0, b0, hlt, idxOk, hx', hne, w1]
      · simp [L47_0, b0, h1, idxOk, hx, hw]
    · have e1 : ((c.toNat : Int) == 91) = false := by rw [ieq]; simp; intro h; exact hc ((u8 (n := 91) (by omega)).1 h)
      have hl : lead (c :: s.drop (n + 1)) = 0 := by rw [lead, if_neg hc]
      rw [hl]
      by_cases hz : n = 0
      · subst hz
        have hx' : s[0] = c := by rw [List.getElem?_eq_getElem hlt] at hx; injection hx
        have hne : s ≠ [] := by intro h; rw [h] at hlt; cases hlt
        simp [L47_0, b0, hlt, idxOk, hx', hne, e1]
      · simp [L47_0, b0, h1, idxOk, hx, e1]

def b1 (s : List UInt8) (n m : Nat) : St := { env := [(0, .str s), (3, .int .i64 (n : Int)), (4, .int .i64 (m : Int))], mem := [[], [], []] }
/-- Where a ';' stands, or the end. -/
def semi (r : List UInt8) : Nat := if Lib.indexByte r 59 < 0 then r.length else (Lib.indexByte r 59).toNat
theorem semi_cons (c : UInt8) (r : List UInt8) : semi (c :: r) = if c = 59 then 0 else semi r + 1 := by
  have := idx_lt r 59
  unfold semi
  conv => lhs; unfold Lib.indexByte
  by_cases h : c = 59
  · simp [h]
  · by_cases hk : Lib.indexByte r 59 = -1
    · simp [h, hk]
    · have h2 : ¬ Lib.indexByte r 59 < 0 := by omega
      have h3 : ¬ Lib.indexByte r 59 + 1 < 0 := by omega
      simp [h, hk, h2, h3]; omega

set_option maxHeartbeats 4000000 in
theorem semiLoop (s : List UInt8) (n : Nat) (hs : s.length ≤ 100000) : ∀ (k m : Nat), m + k = s.length → 0 < m → cv tab prim (.loop L47_1) (b1 s n m) = some (.exit 2, b1 s n (m + semi (s.drop m))) := by
  intro k
  induction k with
  | zero =>
    intro m hm _
    obtain rfl : m = s.length := by omega
    rw [cv_loop', List.drop_length]
    have : semi [] = 0 := by rfl
    simp [L47_1, b1, this]
  | succ k ih =>
    intro m hm hm0
    have hlt : m < s.length := by omega
    have h1 : (m : Int) < (s.length : Int) := by omega
    have hx : s[m]? = some s[m] := List.getElem?_eq_getElem hlt
    have hw : IntKind.i64.wrap ((m : Int) + 1) = (m : Int) + 1 := wrap_small (by omega) (by omega)
    have hd : s.drop m = s[m] :: s.drop (m + 1) := List.drop_eq_getElem_cons hlt
    have i1 := ih (m + 1) (by omega) (by omega)
    rw [cv_loop', hd, semi_cons]
    generalize s[m] = c at hx ⊢
    by_cases hc : c = 59
    · subst hc
      simp [L47_1, b1, h1, idxOk, hx]
    · have e1 : ((c.toNat : Int) == 59) = false := by rw [ieq]; simp; intro h; exact hc ((u8 (n := 59) (by omega)).1 h)
      rw [if_neg hc, show m + (semi (s.drop (m + 1)) + 1) = m + 1 + semi (s.drop (m + 1)) by omega, ← i1]
      simp [L47_1, b1, h1, idxOk, hx, hw, e1, bne]

end Go.Proofs.YtgmlanhhjmhmmaaGreat.Ev

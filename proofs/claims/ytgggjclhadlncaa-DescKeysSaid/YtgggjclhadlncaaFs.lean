/- Keys, as the document tells them; the law of keys. -/
import Derived.Test.YtgggjclhadlncaaFr
namespace Go.Proofs.Ytgggjclhadlncaa.Ev
open Go

theorem idx_snoc (l : List UInt8) (x c : UInt8) : Lib.indexByte (l ++ [x]) c = if 0 ≤ Lib.indexByte l c then Lib.indexByte l c else if x = c then (l.length : Int) else -1 := by
  induction l with
  | nil => by_cases h : x = c <;> simp [Lib.indexByte, h]
  | cons b l ih =>
    have h1 := (idx_lt l c).2
    by_cases hb : b = c
    · simp [Lib.indexByte, hb]
    · by_cases hk : Lib.indexByte l c = -1
      · have h0 : ¬ (0 : Int) ≤ -1 := by omega
        rw [hk, if_neg h0] at ih
        by_cases hx : x = c
        · subst hx
          rw [if_pos rfl] at ih
          have h2 : ¬ (l.length : Int) = -1 := by omega
          simp [Lib.indexByte, hb, hk, ih, h2]
        · rw [if_neg hx] at ih
          simp [Lib.indexByte, hb, hk, ih, hx]
      · have h0 : (0 : Int) ≤ Lib.indexByte l c := by omega
        rw [if_pos h0] at ih
        have h3 : (0 : Int) ≤ Lib.indexByte l c + 1 := by omega
        simp [Lib.indexByte, hb, hk, ih, h3]

def sSt (s : List UInt8) (a b : Int) (i : Nat) : St := { env := [(0, .str s), (6, .int .i64 a), (7, .int .i64 b), (8, .int .i64 (i : Int))], mem := [[]] }
def up (x c : UInt8) (a : Int) (i : Nat) : Int := if 0 ≤ a then a else if x = c then (i : Int) else -1

set_option maxHeartbeats 8000000 in
theorem s_round (s : List UInt8) (a b : Int) (i : Nat) (hs : s.length ≤ 100000) (hi : i < s.length) (ha : -1 ≤ a) (hb : -1 ≤ b) :
    cv tab prim L21_0 (sSt s a b i) = some (.normal, sSt s (up s[i] 46 a i) (up s[i] 40 b i) (i + 1)) := by
  have h1 : (i : Int) < (s.length : Int) := by omega
  have hw : IntKind.i64.wrap ((i : Int) + 1) = (i : Int) + 1 := wrap_small (by omega) (by omega)
  have hx : s[i]? = some s[i] := List.getElem?_eq_getElem hi
  generalize s[i] = c at hx ⊢
  unfold up
  by_cases h46 : c = 46
  · subst h46
    have hbb : (if 0 ≤ b then b else if (46 : UInt8) = 40 then (i : Int) else -1) = b := by
      by_cases hb0 : 0 ≤ b
      · rw [if_pos hb0]
      · rw [if_neg hb0, if_neg (by decide)]; omega
    rw [hbb]
    by_cases h0 : a < 0
    · have h0' : ¬ 0 ≤ a := by omega
      simp [L21_0, sSt, h1, idxOk, hx, hw, h0, h0']
    · have h0' : 0 ≤ a := by omega
      simp [L21_0, sSt, h1, idxOk, hx, hw, h0, h0']
  · have e1 : ((c.toNat : Int) == 46) = false := u8ne (n := 46) (by omega) h46
    have haa : (if 0 ≤ a then a else if c = 46 then (i : Int) else -1) = a := by
      by_cases ha0 : 0 ≤ a
      · rw [if_pos ha0]
      · rw [if_neg ha0, if_neg h46]; omega
    rw [haa]
    by_cases h40 : c = 40
    · subst h40
      by_cases h0 : b < 0
      · have h0' : ¬ 0 ≤ b := by omega
        simp [L21_0, sSt, h1, idxOk, hx, hw, h0, h0']
      · have h0' : 0 ≤ b := by omega
        simp [L21_0, sSt, h1, idxOk, hx, hw, h0, h0']
    · have e2 : ((c.toNat : Int) == 40) = false := u8ne (n := 40) (by omega) h40
      have hbb : (if 0 ≤ b then b else if c = 40 then (i : Int) else -1) = b := by
        by_cases hb0 : 0 ≤ b
        · rw [if_pos hb0]
        · rw [if_neg hb0, if_neg h40]; omega
      rw [hbb]
      simp [L21_0, sSt, h1, idxOk, hx, hw, e1, e2]

theorem s_end (s : List UInt8) (a b : Int) : cv tab prim L21_0 (sSt s a b s.length) = some (.exit 0, { env := [(0, .str s), (6, .int .i64 a), (7, .int .i64 b)], mem := [[]] }) := by
  simp [L21_0, sSt]

theorem sLoop (s : List UInt8) (hs : s.length ≤ 100000) : ∀ (k i : Nat), i + k = s.length →
    cv tab prim (.loop L21_0) (sSt s (Lib.indexByte (s.take i) 46) (Lib.indexByte (s.take i) 40) i) = some (.exit 0, { env := [(0, .str s), (6, .int .i64 (Lib.indexByte s 46)), (7, .int .i64 (Lib.indexByte s 40))], mem := [[]] }) := by
  intro k
  induction k with
  | zero =>
    intro i hi
    obtain rfl : i = s.length := by omega
    rw [cv_loop', s_end, List.take_length, roundK_e]
  | succ k ih =>
    intro i hi
    have hlt : i < s.length := by omega
    have ht : s.take (i + 1) = s.take i ++ [s[i]] := by rw [List.take_add_one, List.getElem?_eq_getElem hlt]; rfl
    have hl : ((s.take i).length : Int) = (i : Int) := by rw [List.length_take]; omega
    have u : ∀ c, up s[i] c (Lib.indexByte (s.take i) c) i = Lib.indexByte (s.take (i + 1)) c := by
      intro c; rw [ht, idx_snoc, hl]; rfl
    rw [cv_loop', s_round s _ _ i hs hlt (idx_lt _ _).2 (idx_lt _ _).2, u, u, roundK_n, ih (i + 1) (by omega)]

theorem key_join {s : List UInt8} {i j : Nat} (hi : Lib.indexByte s 46 = i) (h : i + 1 ≤ j) : s.take i ++ 46 :: ((s.take j).drop (i + 1) ++ s.drop j) = s := by
  have h1 := idx_at hi
  have hlt : i < s.length := (List.getElem?_eq_some_iff.1 h1).1
  have h2 : s.drop i = 46 :: s.drop (i + 1) := by
    rw [List.drop_eq_getElem_cons hlt]; congr 1; exact (List.getElem?_eq_some_iff.1 h1).2
  have h3 : (s.take j).drop (i + 1) ++ s.drop j = s.drop (i + 1) := by
    rw [List.drop_take]
    have : s.drop j = (s.drop (i + 1)).drop (j - (i + 1)) := by rw [List.drop_drop]; congr 1; omega
    rw [this, List.take_append_drop]
  rw [h3, ← h2, List.take_append_drop]

set_option maxHeartbeats 4000000 in
theorem ev21 (s : List UInt8) (hs : s.length ≤ 100000) : ev tab prim 21 [.str s] [] = some (splitV s, []) := by
  rw [ev_fn' tab prim (f := 21) rfl _ _ rfl]
  have h := sLoop s hs s.length 0 (by omega)
  have hz : ∀ c, Lib.indexByte (s.take 0) c = -1 := fun c => rfl
  rw [hz, hz] at h
  simp only [sSt, Int.natCast_zero] at h
  have l1 := idx_lt s 46
  have l2 := idx_lt s 40
  unfold splitV
  by_cases g1 : Lib.indexByte s 46 < 0
  · rw [if_pos (.inl g1)]
    simp [h, g1]
  by_cases g2 : Lib.indexByte s 40 < Lib.indexByte s 46
  · rw [if_pos (.inr (.inl g2))]
    simp [h, g1, g2]
  obtain ⟨i, hi⟩ : ∃ i : Nat, Lib.indexByte s 46 = i := ⟨(Lib.indexByte s 46).toNat, by omega⟩
  obtain ⟨j, hj⟩ : ∃ j : Nat, Lib.indexByte s 40 = j := ⟨(Lib.indexByte s 40).toNat, by omega⟩
  have hij := idx_ne hi hj (by omega)
  have hjoin := key_join hi hij
  have hne : s ≠ [] := by rintro rfl; simp [Lib.indexByte] at hi; try omega
  rw [hi, hj] at h
  rw [hi, hj, Int.toNat_natCast, Int.toNat_natCast]
  rw [hi] at l1 g1
  rw [hj] at l2
  rw [hi, hj] at g2
  have h22 := ev22 (s.take i) ((s.take j).drop (i + 1)) (s.drop j) (by simp; omega) (by simp; omega) (by simp; omega)
  have hw : IntKind.i64.wrap ((i : Int) + 1) = (i : Int) + 1 := wrap_small (by omega) (by omega)
  have b1 : (i : Int) ≤ (s.length : Int) := by omega
  have b2 : (j : Int) ≤ (s.length : Int) := by omega
  have b3 : (0 : Int) ≤ (i : Int) + 1 := by omega
  have b4 : (i : Int) + 1 ≤ (j : Int) := by omega
  have b5 : ((i : Int) + 1).toNat = i + 1 := by omega
  have c1 : i ≤ s.length := by omega
  have c2 : j ≤ s.length := by omega
  by_cases g3 : keyV (s.take i) ((s.take j).drop (i + 1)) (s.drop j) = []
  · rw [if_pos (.inr (.inr g3))]
    rw [g3] at h22
    have g4 : (([] : List UInt8) == s) = false := by cases s with | nil => exact absurd rfl hne | cons => rfl
    simp [h, g1, g2, hw, b1, b2, b3, b4, b5, c1, c2, h22, g4]
  · rw [if_neg (by rintro (h | h | h) <;> contradiction)]
    have g4 : keyV (s.take i) ((s.take j).drop (i + 1)) (s.drop j) = s := by
      unfold keyV at g3 ⊢
      split at g3
      · rename_i hh; rw [if_pos hh]; exact hjoin
      · exact absurd rfl g3
    rw [g4] at h22
    simp [h, g1, g2, hw, b1, b2, b3, b4, b5, c1, c2, h22]

end Go.Proofs.Ytgggjclhadlncaa.Ev

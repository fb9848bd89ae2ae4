/- What is told of a text. -/
import Derived.Test.YtgggjclhadlncaaFk
namespace Go.Proofs.Ytgggjclhadlncaa.Ev
open Go

def typeOk (s : List UInt8) : Bool := !s.isEmpty && decide (fr 0 s = s.length)

theorem ne_nil (s : List UInt8) : (s == ([] : List UInt8)) = s.isEmpty := by cases s <;> rfl

theorem ev23 (s : List UInt8) (hs : s.length ≤ 100000) : ev tab prim 23 [.str s] [] = some (.bool (typeOk s), []) := by
  rw [ev_fn' tab prim (f := 23) rfl _ _ rfl]
  have h := ev50 s hs
  have e : ((fr 0 s : Int) == (s.length : Int)) = decide (fr 0 s = s.length) := by rw [ieq, Bool.eq_iff_iff]; simp; omega
  unfold typeOk
  cases he : s.isEmpty
  · simp [h, he, e]
  · simp [he]

theorem ev28 (s : List UInt8) (hs : s.length ≤ 100000) : ev tab prim 28 [.str s] [] = some (.bool (typeOk s), []) := by
  rw [ev_fn' tab prim (f := 28) rfl _ _ rfl]
  have h := ev49 s hs
  have hl := fr_le 0 s
  unfold nextV at h
  unfold typeOk
  by_cases hf : fr 0 s = 0
  · rw [if_pos hf] at h
    have : (!s.isEmpty && decide (fr 0 s = s.length)) = false := by
      rw [hf]; cases s <;> simp
    rw [this]
    simp [h]
  · rw [if_neg hf] at h
    have he : s.isEmpty = false := by cases s with | nil => simp [fr] at hf | cons => rfl
    have ht : (s.take (fr 0 s)).isEmpty = false := by
      cases s with
      | nil => simp [fr] at hf
      | cons c r => cases hh : fr 0 (c :: r) with
        | zero => exact absurd hh hf
        | succ n => rfl
    have hd : (s.drop (fr 0 s)).isEmpty = decide (fr 0 s = s.length) := by
      rw [Bool.eq_iff_iff]; simp [List.isEmpty_iff, List.drop_eq_nil_iff]; omega
    rw [he]
    generalize s.take (fr 0 s) = t at h ht
    generalize s.drop (fr 0 s) = r at h hd
    simp [h, ht, hd]

def refOk (s : List UInt8) : Bool := typeOk s && (!(s == [73]) && !(s == [67]))
theorem ev26 (s : List UInt8) (hs : s.length ≤ 100000) : ev tab prim 26 [.str s] [] = some (.bool (refOk s), []) := by
  rw [ev_fn' tab prim (f := 26) rfl _ _ rfl]
  have h := ev28 s hs
  unfold refOk
  cases ht : typeOk s <;> rw [ht] at h
  · simp [h]
  · cases h1 : s == [73]
    · simp [h, h1]
    · simp [h, h1]
theorem ev34 (s : List UInt8) (hs : s.length ≤ 100000) : ev tab prim 34 [.str s] [] = some (.bool (refOk s), []) := by
  rw [ev_fn' tab prim (f := 34) rfl _ _ rfl]
  have h := ev23 s hs
  unfold refOk
  cases ht : typeOk s <;> rw [ht] at h
  · simp [h]
  · cases h1 : s == [73]
    · simp [h, h1]
    · simp [h, h1]

def mnameOk (s : List UInt8) : Bool := s == [60, 105, 110, 105, 116, 62] || (s == [60, 99, 108, 105, 110, 105, 116, 62] || nameOk s)
theorem ev32 (s : List UInt8) (hs : s.length ≤ 100000) : ev tab prim 32 [.str s] [] = some (.bool (mnameOk s), []) := by
  rw [ev_fn' tab prim (f := 32) rfl _ _ rfl]
  have h := ev30 s (by omega)
  unfold mnameOk
  cases h1 : s == [60, 105, 110, 105, 116, 62]
  · cases h2 : s == [60, 99, 108, 105, 110, 105, 116, 62]
    · simp [h, h1, h2]
    · simp [h1, h2]
  · simp [h1]
theorem ev33 (s : List UInt8) (hs : s.length ≤ 100000) : ev tab prim 33 [.str s] [] = some (.bool (mnameOk s), []) := by
  rw [ev_fn' tab prim (f := 33) rfl _ _ rfl]
  have h := ev31 s (by omega)
  unfold mnameOk
  cases h1 : s == [60, 105, 110, 105, 116, 62]
  · cases h2 : s == [60, 99, 108, 105, 110, 105, 116, 62]
    · simp [h, h1, h2]
    · simp [h1, h2]
  · simp [h1]

def ofV (s : List UInt8) : List UInt8 := if nameOk s = true then 76 :: (s ++ [59]) else []
theorem ev37 (s : List UInt8) (hs : s.length ≤ 100000) : ev tab prim 37 [.str s] [] = some (.str (ofV s), []) := by
  rw [ev_fn' tab prim (f := 37) rfl _ _ rfl]
  have h := ev30 s (by omega)
  have hb : s.length + 1 ≤ 9223372036854775807 := by omega
  have hb2 : s.length + 1 + 1 ≤ 9223372036854775807 := by omega
  have hb3 : 1 + s.length ≤ 9223372036854775807 := by omega
  unfold ofV
  cases hn : nameOk s <;> rw [hn] at h <;> simp [h, hb, hb2, hb3]
theorem ev38 (s : List UInt8) (hs : s.length ≤ 100000) : ev tab prim 38 [.str s] [] = some (.str (ofV s), []) := by
  rw [ev_fn' tab prim (f := 38) rfl _ _ rfl]
  have h := ev31 s (by omega)
  have hb : s.length + 1 ≤ 9223372036854775807 := by omega
  have hb2 : s.length + 1 + 1 ≤ 9223372036854775807 := by omega
  have hb3 : 1 + s.length ≤ 9223372036854775807 := by omega
  unfold ofV
  cases hn : nameOk s <;> rw [hn] at h <;> simp [h, hb, hb2, hb3]

def arrV (s : List UInt8) : List UInt8 := if typeOk (91 :: s) = true then 91 :: s else []
theorem ev24 (s : List UInt8) (hs : s.length + 1 ≤ 100000) : ev tab prim 24 [.str s] [] = some (.str (arrV s), []) := by
  rw [ev_fn' tab prim (f := 24) rfl _ _ rfl]
  have h := ev28 (91 :: s) (by simpa using hs)
  have hb3 : 1 + s.length ≤ 9223372036854775807 := by omega
  unfold arrV
  cases hn : typeOk (91 :: s) <;> rw [hn] at h <;> simp [h, hb3]
theorem ev36 (s : List UInt8) (hs : s.length + 1 ≤ 100000) : ev tab prim 36 [.str s] [] = some (.str (arrV s), []) := by
  rw [ev_fn' tab prim (f := 36) rfl _ _ rfl]
  have h := ev23 (91 :: s) (by simpa using hs)
  have hb3 : 1 + s.length ≤ 9223372036854775807 := by omega
  unfold arrV
  cases hn : typeOk (91 :: s) <;> rw [hn] at h <;> simp [h, hb3]

def elemV (s : List UInt8) : V := match s with
  | 91 :: r => if typeOk (91 :: r) = true then .tup [.str r, .bool true] else .tup [.str [], .bool false]
  | _ => .tup [.str [], .bool false]
theorem typeOk_nil : typeOk [] = false := by rfl
theorem ev25 (s : List UInt8) (hs : s.length ≤ 100000) : ev tab prim 25 [.str s] [] = some (elemV s, []) := by
  rw [ev_fn' tab prim (f := 25) rfl _ _ rfl]
  have h := ev28 s hs
  cases ht : typeOk s <;> rw [ht] at h
  · have : elemV s = .tup [.str [], .bool false] := by unfold elemV; split <;> simp_all
    rw [this]; simp [h]
  · cases s with
    | nil => rw [typeOk_nil] at ht; cases ht
    | cons c r =>
      have l1 : (1 : Int) ≤ (r.length : Int) + 1 := by omega
      by_cases hc : c = 91
      · subst hc
        have : elemV (91 :: r) = .tup [.str r, .bool true] := by unfold elemV; simp [ht]
        rw [this]; simp [h, idxOk, l1]
      · have e1 : ((c.toNat : Int) == 91) = false := u8ne (n := 91) (by omega) hc
        have : elemV (c :: r) = .tup [.str [], .bool false] := by unfold elemV; split <;> simp_all
        rw [this]; simp [h, idxOk, bne, e1]
theorem ev29 (s : List UInt8) (hs : s.length ≤ 100000) : ev tab prim 29 [.str s] [] = some (elemV s, []) := by
  rw [ev_fn' tab prim (f := 29) rfl _ _ rfl]
  have h := ev23 s hs
  cases ht : typeOk s <;> rw [ht] at h
  · have : elemV s = .tup [.str [], .bool false] := by unfold elemV; split <;> simp_all
    rw [this]; simp [h]
  · cases s with
    | nil => rw [typeOk_nil] at ht; cases ht
    | cons c r =>
      have l1 : (1 : Int) ≤ (r.length : Int) + 1 := by omega
      by_cases hc : c = 91
      · subst hc
        have : elemV (91 :: r) = .tup [.str r, .bool true] := by unfold elemV; simp [ht]
        rw [this]; simp [h, idxOk, l1]
      · have e1 : ((c.toNat : Int) == 91) = false := u8ne (n := 91) (by omega) hc
        have : elemV (c :: r) = .tup [.str [], .bool false] := by unfold elemV; split <;> simp_all
        rw [this]; simp [h, idxOk, bne, e1]

end Go.Proofs.Ytgggjclhadlncaa.Ev

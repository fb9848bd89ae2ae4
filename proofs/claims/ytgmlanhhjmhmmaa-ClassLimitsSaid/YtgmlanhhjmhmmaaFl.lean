/- What is told of a text. -/
import Derived.Test.YtgmlanhhjmhmmaaFk
namespace Go.Proofs.Ytgmlanhhjmhmmaa.Ev
open Go

def typeOk (s : List UInt8) : Bool := !s.isEmpty && decide (fr 0 s = s.length)

theorem ne_nil (s : List UInt8) : (s == ([] : List UInt8)) = s.isEmpty := by cases s <;> rfl

theorem ev41 (s : List UInt8) (hs : s.length ≤ 100000) : ev tab prim 41 [.str s] [[], []] = some (.bool (typeOk s), [[], []]) := by
  rw [ev_fn' tab prim (f := 41) rfl _ _ rfl]
  have h := ev65 s hs
  have e : ((fr 0 s : Int) == (s.length : Int)) = decide (fr 0 s = s.length) := by rw [ieq, Bool.eq_iff_iff]; simp; omega
  unfold typeOk
  cases he : s.isEmpty
  · simp [h, he, e]
  · simp [he]

theorem ev38 (s : List UInt8) (hs : s.length ≤ 100000) : ev tab prim 38 [.str s] [[], []] = some (.bool (typeOk s), [[], []]) := by
  rw [ev_fn' tab prim (f := 38) rfl _ _ rfl]
  have h := ev59 s hs
  have hl := fr_le 0 s
  unfold nextV at h
  unfold typeOk
  by_cases hf : fr 0 s = 0
  · rw [if_pos hf] at h
    have : (!s.isEmpty && decide (fr 0 s = s.length)) = false := by
      rw [hf]; cases s <;> simp
    rw [this]
    simp [h]
  · rw [if_neg hf] at h
    have he : s.isEmpty = false := by cases s with | nil => simp [fr] at hf | cons => rfl
    have ht : (s.take (fr 0 s)).isEmpty = false := by
      cases s with
      | nil => simp [fr] at hf
      | cons c r => cases hh : fr 0 (c :: r) with
        | zero => exact absurd hh hf
        | succ n => rfl
    have hd : (s.drop (fr 0 s)).isEmpty = decide (fr 0 s = s.length) := by
      rw [Bool.eq_iff_iff]; simp [List.isEmpty_iff, List.drop_eq_nil_iff]; omega
    rw [he]
    generalize s.take (fr 0 s) = t at h ht
    generalize s.drop (fr 0 s) = r at h hd
    simp [h, ht, hd]

def refOk (s : List UInt8) : Bool := typeOk s && (!(s == [73]) && !(s == [67]))
theorem ev94 (s : List UInt8) (hs : s.length ≤ 100000) : ev tab prim 94 [.str s] [[], []] = some (.bool (refOk s), [[], []]) := by
  rw [ev_fn' tab prim (f := 94) rfl _ _ rfl]
  have h := ev38 s hs
  unfold refOk
  cases ht : typeOk s <;> rw [ht] at h
  · simp [h]
  · cases h1 : s == [73]
    · simp [h, h1]
    · simp [h, h1]
theorem ev85 (s : List UInt8) (hs : s.length ≤ 100000) : ev tab prim 85 [.str s] [[], []] = some (.bool (refOk s), [[], []]) := by
  rw [ev_fn' tab prim (f := 85) rfl _ _ rfl]
  have h := ev41 s hs
  unfold refOk
  cases ht : typeOk s <;> rw [ht] at h
  · simp [h]
  · cases h1 : s == [73]
    · simp [h, h1]
    · simp [h, h1]

def mnameOk (s : List UInt8) : Bool := s == [60, 105, 110, 105, 116, 62] || (s == [60, 99, 108, 105, 110, 105, 116, 62] || nameOk s)
theorem ev75 (s : List UInt8) (hs : s.length ≤ 100000) : ev tab prim 75 [.str s] [[], []] = some (.bool (mnameOk s), [[], []]) := by
  rw [ev_fn' tab prim (f := 75) rfl _ _ rfl]
  have h := ev35 s (by omega)
  unfold mnameOk
  cases h1 : s == [60, 105, 110, 105, 116, 62]
  · cases h2 : s == [60, 99, 108, 105, 110, 105, 116, 62]
    · simp [h, h1, h2]
    · simp [h1, h2]
  · simp [h1]
theorem ev67 (s : List UInt8) (hs : s.length ≤ 100000) : ev tab prim 67 [.str s] [[], []] = some (.bool (mnameOk s), [[], []]) := by
  rw [ev_fn' tab prim (f := 67) rfl _ _ rfl]
  have h := ev40 s (by omega)
  unfold mnameOk
  cases h1 : s == [60, 105, 110, 105, 116, 62]
  · cases h2 : s == [60, 99, 108, 105, 110, 105, 116, 62]
    · simp [h, h1, h2]
    · simp [h1, h2]
  · simp [h1]

def ofV (s : List UInt8) : List UInt8 := if nameOk s = true then 76 :: (s ++ [59]) else []
def arrV (s : List UInt8) : List UInt8 := if typeOk (91 :: s) = true then 91 :: s else []
theorem ev93 (s : List UInt8) (hs : s.length + 1 ≤ 100000) : ev tab prim 93 [.str s] [[], []] = some (.str (arrV s), [[], []]) := by
  rw [ev_fn' tab prim (f := 93) rfl _ _ rfl]
  have h := ev38 (91 :: s) (by simpa using hs)
  have hb3 : 1 + s.length ≤ 9223372036854775807 := by omega
  unfold arrV
  cases hn : typeOk (91 :: s) <;> rw [hn] at h <;> simp [h, hb3]
theorem ev84 (s : List UInt8) (hs : s.length + 1 ≤ 100000) : ev tab prim 84 [.str s] [[], []] = some (.str (arrV s), [[], []]) := by
  rw [ev_fn' tab prim (f := 84) rfl _ _ rfl]
  have h := ev41 (91 :: s) (by simpa using hs)
  have hb3 : 1 + s.length ≤ 9223372036854775807 := by omega
  unfold arrV
  cases hn : typeOk (91 :: s) <;> rw [hn] at h <;> simp [h, hb3]

def elemV (s : List UInt8) : V := match s with
  | 91 :: r => if typeOk (91 :: r) = true then .tup [.str r, .bool true] else .tup [.str [], .bool false]
  | _ => .tup [.str [], .bool false]
theorem typeOk_nil : typeOk [] = false := by rfl
end Go.Proofs.Ytgmlanhhjmhmmaa.Ev

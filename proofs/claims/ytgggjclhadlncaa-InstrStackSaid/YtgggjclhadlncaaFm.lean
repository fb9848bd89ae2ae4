/- The law of texts that are asked of. -/
import Derived.Test.YtgggjclhadlncaaFl
namespace Go.Proofs.Ytgggjclhadlncaa.Ev
open Go

def classV (s : List UInt8) : List UInt8 := match s with
  | 76 :: r => if typeOk (76 :: r) = true then r.take (r.length - 1) else []
  | _ => []
theorem typeOk_len {r : List UInt8} (h : typeOk (76 :: r) = true) : 1 ≤ r.length := by
  unfold typeOk at h
  cases r with
  | nil => revert h; decide
  | cons a r => simp

theorem ev27 (s : List UInt8) (hs : s.length ≤ 100000) : ev tab prim 27 [.str s] [] = some (.str (classV s), []) := by
  rw [ev_fn' tab prim (f := 27) rfl _ _ rfl]
  have h := ev28 s hs
  cases ht : typeOk s <;> rw [ht] at h
  · have : classV s = [] := by unfold classV; split <;> simp_all
    rw [this]; simp [h]
  · cases s with
    | nil => rw [typeOk_nil] at ht; cases ht
    | cons c r =>
      by_cases hc : c = 76
      · subst hc
        have hl := typeOk_len ht
        have : classV (76 :: r) = r.take (r.length - 1) := by unfold classV; simp [ht]
        rw [List.length_cons] at hs
        have w0 : ((r.length : Int) + 1 - 1) = (r.length : Int) := by omega
        have w1 : IntKind.i64.wrap (r.length : Int) = (r.length : Int) := wrap_small (by omega) (by omega)
        have l1 : (1 : Int) ≤ (r.length : Int) := by omega
        have l2 : (r.length : Int) ≤ (r.length : Int) + 1 := by omega
        have l3 : ((76 :: r).take r.length).drop 1 = r.take (r.length - 1) := by
          obtain ⟨n, hn⟩ : ∃ n, r.length = n + 1 := ⟨r.length - 1, by omega⟩
          rw [hn]; rfl
        rw [this]; simp [h, idxOk, w0, w1, l1, l2, hl, l3]
      · have e1 : ((c.toNat : Int) == 76) = false := u8ne (n := 76) (by omega) hc
        have : classV (c :: r) = [] := by unfold classV; split <;> simp_all
        rw [this]; simp [h, idxOk, bne, e1]
theorem ev35 (s : List UInt8) (hs : s.length ≤ 100000) : ev tab prim 35 [.str s] [] = some (.str (classV s), []) := by
  rw [ev_fn' tab prim (f := 35) rfl _ _ rfl]
  have h := ev23 s hs
  cases ht : typeOk s <;> rw [ht] at h
  · have : classV s = [] := by unfold classV; split <;> simp_all
    rw [this]; simp [h]
  · cases s with
    | nil => rw [typeOk_nil] at ht; cases ht
    | cons c r =>
      by_cases hc : c = 76
      · subst hc
        have hl := typeOk_len ht
        have : classV (76 :: r) = r.take (r.length - 1) := by unfold classV; simp [ht]
        rw [List.length_cons] at hs
        have w0 : ((r.length : Int) + 1 - 1) = (r.length : Int) := by omega
        have w1 : IntKind.i64.wrap (r.length : Int) = (r.length : Int) := wrap_small (by omega) (by omega)
        have l1 : (1 : Int) ≤ (r.length : Int) := by omega
        have l2 : (r.length : Int) ≤ (r.length : Int) + 1 := by omega
        have l3 : ((76 :: r).take r.length).drop 1 = r.take (r.length - 1) := by
          obtain ⟨n, hn⟩ : ∃ n, r.length = n + 1 := ⟨r.length - 1, by omega⟩
          rw [hn]; rfl
        rw [this]; simp [h, idxOk, w0, w1, l1, l2, hl, l3]
      · have e1 : ((c.toNat : Int) == 76) = false := u8ne (n := 76) (by omega) hc
        have : classV (c :: r) = [] := by unfold classV; split <;> simp_all
        rw [this]; simp [h, idxOk, bne, e1]

theorem rep_str {K : Know} (s : ByteArray) : Rep K (.string s) (.str s.data.toList) := by
  obtain ⟨d⟩ := s
  exact .str d.toList

theorem elemV_eq (s : List UInt8) : ∃ a b, elemV s = .tup [.str a, .bool b] := by
  unfold elemV
  split
  · split <;> exact ⟨_, _, rfl⟩
  · exact ⟨_, _, rfl⟩

set_option maxHeartbeats 4000000 in
theorem ev7 (s : List UInt8) : ev tab prim 7 [.str s] [] = some (.bool true, []) := by
  rw [ev_fn' tab prim (f := 7) rfl _ _ rfl]
  by_cases hl : 300 < s.length
  · have hl' : (300 : Int) < (s.length : Int) := by omega
    simp [hl', ev12]
  · have hl' : ¬ (300 : Int) < (s.length : Int) := by omega
    have h25 := ev25 s (by omega)
    have h29 := ev29 s (by omega)
    obtain ⟨a, b, hab⟩ := elemV_eq s
    rw [hab] at h25 h29
    simp [hl', ev12, h25, h29, ev30 s (by omega), ev31 s (by omega), ev32 s (by omega), ev33 s (by omega), ev28 s (by omega), ev23 s (by omega), ev26 s (by omega), ev34 s (by omega), ev27 s (by omega), ev35 s (by omega), ev24 s (by omega), ev36 s (by omega), ev37 s (by omega), ev38 s (by omega)]

end Go.Proofs.Ytgggjclhadlncaa.Ev

/- Rows of whole types; round numbers. -/
import Derived.Test.YtgmlanhhjmhmmaaGreatFp
namespace Go.Proofs.YtgmlanhhjmhmmaaGreat.Ev
open Go

/-- A whole type: whatever follows, a text that opens with it begins with it. -/
def Whole (t : List UInt8) : Prop := t ≠ [] ∧ ∀ rest, fr 0 (t ++ rest) = t.length

theorem prm_row : ∀ (k : Nat) (ts : List (List UInt8)) (rest : List UInt8), (∀ t ∈ ts, Whole t) → fr 0 rest = 0 →
    prm k (ts.flatten ++ rest) = (ts.take k, (ts.drop k).flatten ++ rest) := by
  intro k
  induction k with
  | zero => intro ts rest _ _; simp [prm]
  | succ k ih =>
    intro ts rest hw hr
    cases ts with
    | nil => simp [prm, hr]
    | cons t ts =>
      have ht := hw t (List.mem_cons_self ..)
      have h1 : fr 0 ((t :: ts).flatten ++ rest) = t.length := by
        rw [List.flatten_cons, List.append_assoc]; exact ht.2 _
      have h0 : t.length ≠ 0 := by intro h; exact ht.1 (List.length_eq_zero_iff.1 h)
      have i1 := ih ts rest (fun u hu => hw u (List.mem_cons_of_mem _ hu)) hr
      rw [prm, h1, if_neg h0, List.flatten_cons, List.append_assoc, List.take_left, List.drop_left, i1]
      simp

theorem w_I : Whole [73] := ⟨by simp, fun rest => by simp [fr, body]⟩
theorem w_C : Whole [67] := ⟨by simp, fun rest => by simp [fr, body]⟩
theorem n_A : nameOk [65] = true := by decide
theorem n_B : nameOk [66, 99, 95, 49] = true := by decide
theorem w_LA : Whole [76, 65, 59] := ⟨by simp, fun rest => by simp [fr, body, Lib.indexByte, n_A]⟩
theorem w_BI : Whole [91, 73] := ⟨by simp, fun rest => by simp [fr, body]⟩
theorem w_BLA : Whole [91, 76, 65, 59] := ⟨by simp, fun rest => by simp [fr, body, Lib.indexByte, n_A]⟩
theorem w_BBL : Whole [91, 91, 76, 66, 99, 95, 49, 59] := ⟨by simp, fun rest => by simp [fr, body, Lib.indexByte, n_B]⟩

theorem whole_type {t : List UInt8} (h : Whole t) : typeOk t = true := by
  have h1 := h.2 []
  rw [List.append_nil] at h1
  have : t.isEmpty = false := by cases t with | nil => exact absurd rfl h.1 | cons => rfl
  simp [typeOk, this, h1]

/-- A number from 0 to ahead of n. -/
def round (k n : Int) : Int := if k.tmod n < 0 then k.tmod n + n else k.tmod n
theorem round_in (k n : Int) (hn : 0 < n) : 0 ≤ round k n ∧ round k n < n := by
  have h1 := Int.tmod_lt_of_pos k hn
  have h2 : -n < k.tmod n := by
    have := Int.tmod_lt_of_pos (-k) hn
    rw [Int.neg_tmod] at this; omega
  unfold round
  split <;> omega
theorem ev15 (k n : Int) (hn : 0 < n) (hb : n ≤ 1000) : ev tab prim 15 [.int .i64 k, .int .i64 n] [[], []] = some (.int .i64 (round k n), [[], []]) := by
  rw [ev_fn' tab prim (f := 15) rfl _ _ rfl]
  have h0 : ¬ n = 0 := by omega
  have hr := round_in k n hn
  unfold round at hr ⊢
  by_cases h : k.tmod n < 0
  · rw [if_pos h] at hr ⊢
    have hw : IntKind.i64.wrap (k.tmod n + n) = k.tmod n + n := wrap_small (by omega) (by omega)
    simp [h0, h, hw]
  · rw [if_neg h] at hr ⊢
    simp [h0, h]

/-- What a method's type is: a row of whole types between '(' and ')', and a type or V. -/
theorem meth_row (ts : List (List UInt8)) (r : List UInt8) (hw : ∀ t ∈ ts, Whole t) (hr : r = [86] ∨ Whole r) (hn : ts.length ≤ 8) :
    methV (40 :: (ts.flatten ++ 41 :: r)) = .tup [.list 1 (strs ts) true, .str r, .int .i64 0] := by
  have h0 : fr 0 (41 :: r) = 0 := by simp [fr, body]
  have hp := prm_row 8 ts (41 :: r) hw h0
  rw [List.take_of_length_le hn, List.drop_of_length_le hn, List.flatten_nil, List.nil_append] at hp
  have ht : tailOk (41 :: r) = true := by
    unfold tailOk cut
    simp
    rcases hr with hr | hr
    · left; exact hr
    · right; exact whole_type hr
  unfold methV
  have hc : cut 40 (40 :: (ts.flatten ++ 41 :: r)) = (ts.flatten ++ 41 :: r, true) := by simp [cut]
  rw [hc, hp, ht]
  simp [cut, strs]

theorem meth_bad (ts : List (List UInt8)) (q : List UInt8) (hw : ∀ t ∈ ts, Whole t) (hq : fr 0 q = 0) (hb : tailOk q = false ∨ 8 < ts.length) :
    methV (40 :: (ts.flatten ++ q)) = .tup [.list 1 [] true, .str [], .int .i64 6] := by
  have hp := prm_row 8 ts q hw hq
  have hc : cut 40 (40 :: (ts.flatten ++ q)) = (ts.flatten ++ q, true) := by simp [cut]
  have ht : tailOk ((ts.drop 8).flatten ++ q) = false := by
    by_cases hl : ts.length ≤ 8
    · rw [List.drop_of_length_le hl, List.flatten_nil, List.nil_append]
      rcases hb with h | h
      · exact h
      · omega
    · cases hd : ts.drop 8 with
      | nil => have := congrArg List.length hd; rw [List.length_drop] at this; simp at this; omega
      | cons t u =>
        have hm : t ∈ ts := List.mem_of_mem_drop (by rw [hd]; exact List.mem_cons_self ..)
        have hwt := hw t hm
        cases t with
        | nil => exact absurd rfl hwt.1
        | cons a t' =>
          have ha : a ≠ 41 := by
            rintro rfl
            have := hwt.2 []
            simp [fr, body] at this
          rw [List.flatten_cons]
          simp [tailOk, cut, ha]
  unfold methV
  rw [hc, hp, ht]
  simp

end Go.Proofs.YtgmlanhhjmhmmaaGreat.Ev

import Derived.Test.YtdcgdcienckglaaGreatKu
/- The law LinkWhole. -/
namespace Go.Proofs.YtdcgdcienckglaaGreat.Ev
open Go

def goA : Mth := ⟨[103, 111], [40, 41, 86], false, true, 0, 0, [], []⟩
def goM : Mth := ⟨[103, 111], [40, 41, 86], false, false, 0, 1, [retI], []⟩
def wI : Cls := ⟨[73], sObject, true, true, [], [], [goA]⟩
def wA (r : Nat) : Cls := if r = 0 then ⟨[65], sObject, false, false, [], [], []⟩ else if r = 1 then ⟨[65], sObject, false, true, [[73]], [], []⟩ else ⟨[65], sObject, false, true, [], [], [goA]⟩
def wB (r : Nat) (ab has : Bool) : Cls := ⟨[66], [65], false, ab, if r = 0 then [[73]] else [], [], if has then [goM] else []⟩
def wL (r : Nat) (ab has : Bool) : List Cls := [wB r ab has, wI, wA r]
theorem whole_fine : (List.range 3).all (fun r => [true, false].all fun ab => [true, false].all fun has =>
    decide (classesF (wL r ab has) = if !has && !ab then some (8, [66]) else none) && ((wL r ab has).all smallB && decide (((wL r ab has).flatMap (·.im)).length ≤ 90000))) = true := by kernel_rfl
theorem whole_facts {r : Nat} (hr : r < 3) (ab has : Bool) : classesF (wL r ab has) = (if !has && !ab then some (8, [66]) else none) ∧ GoodL (wL r ab has) := by
  have h := List.all_eq_true.1 (List.all_eq_true.1 (List.all_eq_true.1 whole_fine r (List.mem_range.2 hr)) ab (by cases ab <;> simp)) has (by cases has <;> simp)
  obtain ⟨h1, h2⟩ := (Bool.and_eq_true _ _).mp h
  obtain ⟨h2, h3⟩ := (Bool.and_eq_true _ _).mp h2
  exact ⟨of_decide_eq_true h1, goodL_of h2 (of_decide_eq_true h3)⟩
theorem whole_call {r : Nat} (hr : r < 3) (ab has : Bool) (F : Mem) : ∃ x y,
    if !has && !ab then ev tab prim 12 [.list 7 ((wL r ab has).map Cls.v) false] (mm F [] []) = some (.tup [.nilp, .int .i64 8, .str [66]], mm F x y)
    else ∃ k, ev tab prim 12 [.list 7 ((wL r ab has).map Cls.v) false] (mm F [] []) = some (.tup [.ptr 0 k 0, .int .i64 0, .str []], mm F x y) := by
  obtain ⟨hf, hg⟩ := whole_facts hr ab has
  obtain ⟨x, y, hO, hA, h2⟩ := ev_Classes (wL r ab has) (fun _ => hg) F [] [] num_nil num_nil false
  rw [classesE_F, hf] at h2
  refine ⟨x, y, ?_⟩
  cases hc : (!has && !ab) with
  | true => rw [hc] at h2; exact h2
  | false => rw [hc] at h2; obtain ⟨k, t, q, _, h3⟩ := h2; exact ⟨k, h3⟩

theorem ev_Round (k n : Int) (hn : 0 < n) (hb : n ≤ 1000000) : ev tab prim 11 [.int .i64 k, .int .i64 n] [[], []] = some (.int .i64 (round k n), [[], []]) := by
  rw [ev_fn' tab prim (f := 11) rfl _ _ rfl]
  have h0 : ¬ n = 0 := by omega
  have hr := round_in k n hn
  unfold round at hr ⊢
  by_cases h : k.tmod n < 0
  · rw [if_pos h] at hr ⊢
    have hw : IntKind.i64.wrap (k.tmod n + n) = k.tmod n + n := wrap_small (by omega) (by omega)
    simp [h0, h, hw]
  · rw [if_neg h] at hr ⊢
    simp [h0, h]

def wcA (r : Nat) : List V := [.str [65], .str sObject, .bool false, .bool (if r = 0 then false else true), if r = 1 then .list 1 [.str [73]] true else .list 1 [] false, .list 3 [] false, if r = 2 then .list 8 [goA.v] true else .list 8 [] false]
def wcB (r : Nat) (ab has : Bool) : List V := [.str [66], .str [65], .bool false, .bool ab, if r = 0 then .list 1 [.str [73]] true else .list 1 [] false, .list 3 [] false, if has then .list 8 [goM.v] true else .list 8 [] false]
set_option maxHeartbeats 4000000 in
theorem ev_lawWhole (w : Int) (ab has : Bool) : ∃ O A, ev tab prim 3 [.int .i64 w, .bool ab, .bool has] [[], []] = some (.bool true, [O, A]) := by
  obtain ⟨aO, aA, ha⟩ := ev_linkAwake
  have hR := ev_Round w 3 (by decide) (by decide)
  obtain ⟨r0, r1⟩ := round_in w 3 (by decide)
  generalize round w 3 = z at *
  have hz : z = 0 ∨ z = 1 ∨ z = 2 := by omega
  have hk : ∃ r : Nat, r < 3 ∧ z = (r : Int) := ⟨z.toNat, by omega, by omega⟩
  obtain ⟨r, hr, rfl⟩ := hk
  obtain ⟨x, y, h⟩ := whole_call hr ab has [[(10, wcA r), (11, wcB r ab has)]]
  have m0 : ∀ (F : Boxes) O A, mm [F] O A = [F, O, A] := fun _ _ _ => rfl
  simp only [m0] at h
  refine ⟨x, y, ?_⟩
  have hc : r = 0 ∨ r = 1 ∨ r = 2 := by omega
  rcases hc with rfl | rfl | rfl <;> cases ab <;> cases has <;>
    simp [wL, wA, wB, wI, wcA, wcB, Cls.v, Cls.cells, goA, goM, Mth.v, Mth.cells, sObject, retI, Ins.v] at h <;>
    first
    | (obtain ⟨k, h⟩ := h
       rw [ev_fn' tab prim (f := 3) rfl _ _ rfl]
       simp at hR
       simp [hR, ha, h])
    | (rw [ev_fn' tab prim (f := 3) rfl _ _ rfl]
       simp at hR
       simp [hR, ha, h])
end Go.Proofs.YtdcgdcienckglaaGreat.Ev

/- The law of what a call takes. -/
import Derived.Test.YtgggjclhadlncaaFx
import Derived.Test.YtgggjclhadlncaaFe
namespace Go.Proofs.Ytgggjclhadlncaa.Ev
open Go

def bools (l : List Bool) : List V := l.map .bool
def bt (b : Bool) : List UInt8 := bif b then [73] else [91, 76, 65, 59]
theorem bt_whole (b : Bool) : Whole (bt b) := by cases b; exact w_BLA; exact w_I
def kSt (l : List Bool) (x y : Int) (i : Nat) : St :=
  { env := [(0, .list 1 (bools l) false), (1, .int .i64 x), (2, .int .i64 y), (7, .str (40 :: ((l.take i).map bt).flatten)), (8, .int .i64 (i : Int))], mem := [[]] }

theorem bt_len : ∀ (l : List Bool), (l.map bt).flatten.length ≤ 4 * l.length
  | [] => by simp
  | b :: l => by
    have h := bt_len l
    rw [List.map_cons, List.flatten_cons, List.length_append, List.length_cons]
    have : (bt b).length ≤ 4 := by cases b <;> simp [bt]
    omega

set_option maxHeartbeats 8000000 in
theorem k_round (l : List Bool) (x y : Int) (i : Nat) (hl : l.length ≤ 10) (hi : i < l.length) : cv tab prim L10_0 (kSt l x y i) = some (.normal, kSt l x y (i + 1)) := by
  have h1 : (i : Int) < ((bools l).length : Int) := by simp [bools]; omega
  have h1' : i < (bools l).length := by simpa using h1
  have hx : (bools l)[i] = .bool l[i] := by simp [bools]
  have hw : IntKind.i64.wrap ((i : Int) + 1) = (i : Int) + 1 := wrap_small (by omega) (by omega)
  have ht : l.take (i + 1) = l.take i ++ [l[i]] := by rw [List.take_add_one, List.getElem?_eq_getElem hi]; rfl
  have hf : ((l.take (i + 1)).map bt).flatten = ((l.take i).map bt).flatten ++ bt l[i] := by
    rw [ht, List.map_append, List.flatten_append]; simp only [List.map_cons, List.map_nil, List.flatten_cons, List.flatten_nil, List.append_nil]
  have hn := bt_len (l.take i)
  have hln : (l.take i).length ≤ 10 := by rw [List.length_take]; omega
  unfold kSt
  rw [hf]
  generalize l[i] = b at hx ⊢
  generalize ((l.take i).map bt).flatten = F at hn ⊢
  have a1 : F.length + 1 + 1 ≤ 9223372036854775807 := by omega
  have a4 : F.length + 1 + 4 ≤ 9223372036854775807 := by omega
  cases b <;> simp [L10_0, h1, h1', hx, hw, a1, a4, idxOk, bt]

theorem k_end (l : List Bool) (x y : Int) : cv tab prim L10_0 (kSt l x y l.length) =
    some (.exit 0, { env := [(0, .list 1 (bools l) false), (1, .int .i64 x), (2, .int .i64 y), (7, .str (40 :: (l.map bt).flatten))], mem := [[]] }) := by
  have h : (bools l).length = l.length := by simp [bools]
  simp [L10_0, kSt, h]

theorem kLoop (l : List Bool) (x y : Int) (hl : l.length ≤ 10) : ∀ (k i : Nat), i + k = l.length → cv tab prim (.loop L10_0) (kSt l x y i) =
    some (.exit 0, { env := [(0, .list 1 (bools l) false), (1, .int .i64 x), (2, .int .i64 y), (7, .str (40 :: (l.map bt).flatten))], mem := [[]] }) := by
  intro k
  induction k with
  | zero =>
    intro i hi
    obtain rfl : i = l.length := by omega
    rw [cv_loop', k_end, roundK_e]
  | succ k ih =>
    intro i hi
    rw [cv_loop', k_round l x y i hl (by omega), roundK_n, ih (i + 1) (by omega)]

theorem res3 {r : Int} (h0 : 0 ≤ r) (h3 : r < 3) : ∃ p, [V.str [86], V.str [73], V.str [76, 65, 59]][r.toNat]? = some (.str p) ∧ (p = [86] ∨ Whole p) ∧ p.length ≤ 8 := by
  obtain ⟨n, rfl⟩ : ∃ n : Nat, r = n := ⟨r.toNat, by omega⟩
  have hn : n < 3 := by omega
  rw [Int.toNat_natCast]
  match n, hn with
  | 0, _ => exact ⟨_, rfl, .inl rfl, by simp⟩
  | 1, _ => exact ⟨_, rfl, .inr w_I, by simp⟩
  | 2, _ => exact ⟨_, rfl, .inr w_LA, by simp⟩

theorem methOk_of {s : List UInt8} {ps : List (List UInt8)} {q : List UInt8} (h : methV s = .tup [.list 1 (strs ps) false, .str q, .int .i64 0]) : methOk s = true := by
  unfold methV at h
  unfold methOk
  split at h
  · assumption
  · injection h with h; injection h with _ h; injection h with _ h; injection h with h _; injection h with _ h; cases h
theorem methOk_bad {s : List UInt8} (h : methV s = .tup [.list 1 [] false, .str [], .int .i64 6]) : methOk s = false := by
  unfold methV at h
  unfold methOk
  split at h
  · injection h with h; injection h with _ h; injection h with _ h; injection h with h _; injection h with _ h; cases h
  · rename_i hh; simpa using hh

set_option maxHeartbeats 8000000 in
theorem ev10 (l : List Bool) (x y : Int) : ev tab prim 10 [.list 1 (bools l) false, .int .i64 x, .int .i64 y] [] = some (.bool true, []) := by
  rw [ev_fn' tab prim (f := 10) rfl _ _ rfl]
  have hil : (bools l).length = l.length := by simp [bools]
  by_cases g : 10 < l.length
  · have g' : (10 : Int) < (l.length : Int) := by omega
    simp [hil, g', ev41]
  have g' : ¬ (10 : Int) < (l.length : Int) := by omega
  have u3 := kLoop l x y (by omega) l.length 0 (by omega)
  simp only [kSt, List.take_zero, List.map_nil, List.flatten_nil, Int.natCast_zero] at u3
  have hr := round_in x 3 (by omega)
  have h13 := ev13 x 3 (by omega) (by omega)
  obtain ⟨rv, r1, r2, r3⟩ := res3 hr.1 hr.2
  obtain ⟨hlt, r1⟩ := List.getElem?_eq_some_iff.1 r1
  have hy := round_in y 4 (by omega)
  have h13y := ev13 y 4 (by omega) (by omega)
  have ho : 32 + round y 4 = 32 ∨ 32 + round y 4 = 33 ∨ 32 + round y 4 = 34 ∨ 32 + round y 4 = 35 := by omega
  obtain ⟨o, hoe⟩ : ∃ o, 32 + round y 4 = o := ⟨_, rfl⟩
  have hwo : IntKind.i64.wrap (32 + round y 4) = o := by rw [wrap_small (by omega) (by omega)]; exact hoe
  rw [hoe] at ho
  have hw : ∀ t ∈ l.map bt, Whole t := by
    intro t ht; obtain ⟨b, _, rfl⟩ := List.mem_map.1 ht; exact bt_whole b
  have hn := bt_len l
  have hml : (l.map bt).length = l.length := by simp
  have h41 : fr 0 (41 :: rv) = 0 := by simp [fr, body]
  have hdl : (40 :: ((l.map bt).flatten ++ 41 :: rv)).length ≤ 100000 := by simp only [List.length_cons, List.length_append]; omega
  have b1 : (l.map bt).flatten.length + 1 + 1 ≤ 9223372036854775807 := by omega
  have b2 : (l.map bt).flatten.length + 1 + 1 + rv.length ≤ 9223372036854775807 := by omega
  by_cases g8 : 8 < l.length
  · have g8' : (8 : Int) < (l.length : Int) := by omega
    have eA := meth_bad (l.map bt) (41 :: rv) hw h41 (.inr (by omega))
    have hE := effect_bad o ho _ hdl eA
    have hC := check_call o ho _ hdl
    rw [methOk_bad eA] at hC
    unfold callI at hE hC
    generalize (l.map bt).flatten = F at *
    generalize round x 3 = r at *
    simp [hil, g', u3, h13, h13y, hwo, hr.1, hr.2, r1, b1, b2, hE, hC, g8', ev41, idxOk]
  · have g8' : ¬ (8 : Int) < (l.length : Int) := by omega
    have eA := meth_row (l.map bt) rv hw r2 (by omega)
    have hE := effect_call o ho _ hdl (l.map bt) rv (by omega) eA
    have hC := check_call o ho _ hdl
    rw [methOk_of eA] at hC
    rw [hml] at hE
    have wl : IntKind.i64.wrap ((l.length : Int) + 1) = (l.length : Int) + 1 := wrap_small (by omega) (by omega)
    have wl2 : (1 : Int) + (l.length : Int) = (l.length : Int) + 1 := by omega
    unfold callI at hE hC
    generalize (l.map bt).flatten = F at *
    generalize round x 3 = r at *
    by_cases o32 : o = 32
    · have eo : (o == 32) = true := by simp [o32]
      rw [if_pos o32] at hE
      by_cases hv : rv = [86]
      · have ev : (rv == [86]) = true := by simp [hv]
        rw [if_pos hv] at hE
        simp [hil, g', u3, h13, h13y, hwo, hr.1, hr.2, r1, b1, b2, hE, hC, g8', ev41, idxOk, eo, ev, bne]
      · have ev : (rv == [86]) = false := by simp [hv]
        rw [if_neg hv] at hE
        simp [hil, g', u3, h13, h13y, hwo, hr.1, hr.2, r1, b1, b2, hE, hC, g8', ev41, idxOk, eo, ev, bne]
    · have eo : (o == 32) = false := by simp [o32]
      rw [if_neg o32] at hE
      by_cases hv : rv = [86]
      · have ev : (rv == [86]) = true := by simp [hv]
        rw [if_pos hv] at hE
        simp [hil, g', u3, h13, h13y, hwo, hr.1, hr.2, r1, b1, b2, hE, hC, g8', ev41, idxOk, eo, ev, bne, wl, wl2]
      · have ev : (rv == [86]) = false := by simp [hv]
        rw [if_neg hv] at hE
        simp [hil, g', u3, h13, h13y, hwo, hr.1, hr.2, r1, b1, b2, hE, hC, g8', ev41, idxOk, eo, ev, bne, wl, wl2]

theorem tBool {n : Nat} {x : List V} (h : TyC Try.prog (n + 1) 4 x) : ∃ m, x = [.bool m] := by
  unfold TyC at h; rw [Try.underlying4] at h; exact h
/-- An argument of the type []bool. -/
theorem t56_row {xs : List V} (h : TyC Try.prog 6 56 xs) : ∃ l, xs = [.list 1 (bools l) false] := by
  unfold TyC at h; rw [Try.underlying56] at h
  obtain ⟨ys, rfl, hlen, hy⟩ := h
  have hc : Try.prog.cellsOf 4 = 1 := by kernel_rfl
  rw [hc]
  have : ∃ l, ys = bools l := by
    clear hc hlen
    induction ys with
    | nil => exact ⟨[], rfl⟩
    | cons y ys ih =>
      obtain ⟨l, rfl⟩ := ih fun z hz => hy z (List.mem_cons_of_mem _ hz)
      obtain ⟨cs, h1, h2⟩ := hy y (List.mem_cons_self ..)
      rw [Try.underlying4] at h2
      obtain ⟨m, hm⟩ := tBool h1
      have h2' : cs = [y] := h2
      rw [hm] at h2'
      injection h2' with h3
      exact ⟨m :: l, by rw [← h3]; rfl⟩
  obtain ⟨l, rfl⟩ := this
  exact ⟨l, rfl⟩

end Go.Proofs.Ytgggjclhadlncaa.Ev

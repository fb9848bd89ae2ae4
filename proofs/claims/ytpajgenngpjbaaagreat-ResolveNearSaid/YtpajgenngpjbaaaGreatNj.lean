import Derived.Test.YtpajgenngpjbaaaGreatNi
import Derived.Test.YtpajgenngpjbaaaGreatKv
/- The law ResolveNear (walk). -/
namespace Go.Proofs.YtpajgenngpjbaaaGreat.Ev
open Go

theorem ev_near1 {i : Nat} (hi : i < 60) (M : Mem) : ev tab prim 18 [.int .i64 i] M = some (.str (kN i), M) := by
  have hd := ev_Decimal hi
  have c1 : (decS i).length ≤ 2 := by unfold decS; split <;> simp
  have b4 : 1 + (decS i).length ≤ 9223372036854775807 := by omega
  unfold kN
  generalize decS i = s at *
  rw [ev_fn' tab prim (f := 18) rfl _ _ rfl]
  simp [hd, b4]
def nrSt (h : List Bool) (st : Bool) (fr : Int) (i : Nat) (F : Boxes) : St :=
  { env := [(0, .list 1 (h.map V.bool) false), (1, .int .i64 fr), (2, .bool st), (7, .func (.func 18) [] []), (8, .str (nsup i)), (9, .list 7 (((nearL h st).take i).map Cls.v) true), (10, .int .i64 (i : Int))], mem := [F, [], []] }
theorem near_take (h : List Bool) (st : Bool) {i : Nat} (hi : i < h.length) : (nearL h st).take (i + 1) = (nearL h st).take i ++ [nC i h[i] st] := by
  have hl : i < (nearL h st).length := by unfold nearL; simpa using hi
  rw [List.take_succ_eq_append_getElem hl]
  congr 2
  have h2 : (nearL h st)[i]? = some (nC i h[i] st) := by
    unfold nearL
    rw [List.getElem?_map, List.getElem?_range hi, Option.map_some, List.getD_eq_getElem?_getD, List.getElem?_eq_getElem hi]
    rfl
  exact Option.some.inj ((List.getElem?_eq_getElem hl).symm.trans h2)
theorem nr_loop (h : List Bool) (st : Bool) (fr : Int) (hn : h.length ≤ 15) : ∀ (m i : Nat) (F : Boxes), i + m = h.length → (F = [] ∨ ∃ a b x1 o1 x2 o2 x3 o3, F = [(11, [.str a, .str b, .bool false, .bool false, .list 1 x1 o1, .list 3 x2 o2, .list 8 x3 o3])]) →
    cv tab prim (.loop L4_0) (nrSt h st fr i F) = some (.exit 0, { env := [(0, .list 1 (h.map V.bool) false), (1, .int .i64 fr), (2, .bool st), (7, .func (.func 18) [] []), (9, .list 7 ((nearL h st).map Cls.v) true)], mem := [[], [], []] }) := by
  intro m
  induction m with
  | zero =>
    intro i F hi hF
    have h1 : ¬ (i : Int) < (h.length : Int) := by omega
    have hl : (nearL h st).length = h.length := by unfold nearL; simp
    have hhl : (h.map V.bool).length = h.length := List.length_map ..
    have htk : (nearL h st).take i = nearL h st := List.take_of_length_le (by omega)
    rw [cv_loop']
    unfold nrSt
    rw [htk]
    generalize (nearL h st).map Cls.v = X at *
    generalize h.map V.bool = Y at *
    rcases hF with rfl | ⟨_, _, _, _, _, _, _, _, rfl⟩ <;> simp [L4_0, h1, hhl]
  | succ m ih =>
    intro i F hi hF
    have hlt : i < h.length := by omega
    have h1 : (i : Int) < (h.length : Int) := by omega
    have w1 : IntKind.i64.wrap ((i : Int) + 1) = ((i + 1 : Nat) : Int) := by rw [wrap_small] <;> omega
    have hix : idxOk i h.length = true := by simp [idxOk]; omega
    have hx : (h.map V.bool)[i]? = some (.bool h[i]) := by simp [hlt]
    have hhl : (h.map V.bool).length = h.length := List.length_map ..
    have hN := fun M => ev_near1 (i := i) (by omega) M
    have hl : (((nearL h st).take i).map Cls.v).length = i := by unfold nearL; simp; omega
    have b1 : i + 1 ≤ 140737488355328 := by omega
    have b2 : (i + 1) * 112 ≤ 140737488355328 := by omega
    have e1 : nsup (i + 1) = kN i := rfl
    have ht := near_take h st hlt
    have ih := fun F hF => ih (i + 1) F (by omega) hF
    unfold nrSt at ih ⊢
    rw [ht, List.map_append, List.map_cons, List.map_nil, e1] at ih
    unfold nC nF nM retI at ih
    generalize h[i] = b at *
    generalize nsup i = ns at *
    generalize kN i = kn at *
    generalize ((nearL h st).take i).map Cls.v = X at *
    generalize (nearL h st).map Cls.v = Z at *
    generalize h.map V.bool = Y at *
    cases b with
    | true =>
      simp only [if_true] at ih
      unfold Cls.v Cls.cells Fld.v Mth.v Mth.cells Ins.v at ih
      simp only [List.map_cons, List.map_nil] at ih
      rw [cv_loop']
      rcases hF with rfl | ⟨_, _, _, _, _, _, _, _, rfl⟩ <;> simp [L4_0, h1, hhl, hix, hx, hN, w1, hl, b1, b2] <;> exact ih _ (.inr ⟨_, _, _, _, _, _, _, _, rfl⟩)
    | false =>
      simp only [Bool.false_eq_true, if_false] at ih
      unfold Cls.v Cls.cells at ih
      simp only [List.map_cons, List.map_nil] at ih
      rw [cv_loop']
      rcases hF with rfl | ⟨_, _, _, _, _, _, _, _, rfl⟩ <;> simp [L4_0, h1, hhl, hix, hx, hN, w1, hl, b1, b2] <;> exact ih _ (.inr ⟨_, _, _, _, _, _, _, _, rfl⟩)
def wnt (h : List Bool) (j : Nat) : Nm := ((wantO h j).map kN).getD []
def nwSt (h : List Bool) (st : Bool) (p : V) (k i : Nat) (M : Mem) : St :=
  { env := [(0, .list 1 (h.map V.bool) false), (2, .bool st), (7, .func (.func 18) [] []), (12, p), (15, .int .i64 (k : Int)), (16, .str (wnt h i)), (17, .int .i64 (i : Int))], mem := M }
theorem nw_loop (h : List Bool) (st : Bool) (kk k : Nat) (hn : h.length ≤ 15) (hk : k < h.length) (M : Mem) :
    cv tab prim (.loop L4_1) (nwSt h st (.ptr 0 kk 0) k 0 M) = some (.exit 2, { env := [(2, .bool st), (7, .func (.func 18) [] []), (12, .ptr 0 kk 0), (15, .int .i64 (k : Int)), (16, .str (wnt h (k + 1)))], mem := M }) := by
  refine loop_all (nwSt h st (.ptr 0 kk 0) k · M) (k + 1) _ (fun i hi => ?_) ?_ (by simp)
  · have h1 : (i : Int) ≤ (k : Int) := by omega
    have w1 : IntKind.i64.wrap ((i : Int) + 1) = ((i + 1 : Nat) : Int) := by rw [wrap_small] <;> omega
    have hlt : i < h.length := by omega
    have hix : idxOk i h.length = true := by simp [idxOk]; omega
    have hx : (h.map V.bool)[i]? = some (.bool h[i]) := by simp [hlt]
    have hhl : (h.map V.bool).length = h.length := List.length_map ..
    have hN := fun M => ev_near1 (i := i) (by omega) M
    have e : wnt h (i + 1) = if h[i] = true then kN i else wnt h i := by
      unfold wnt
      rw [wantO, List.getD_eq_getElem?_getD, List.getElem?_eq_getElem hlt, Option.getD_some]
      split <;> rfl
    unfold nwSt
    rw [e]
    generalize h[i] = b at *
    generalize kN i = kn at *
    generalize wnt h i = wn at *
    generalize h.map V.bool = Y at *
    cases b with
    | true => simp [L4_1, h1, hix, hx, hhl, hN, w1]
    | false => simp [L4_1, h1, hix, hx, hhl, hN, w1]
  · have h1 : ¬ ((k + 1 : Nat) : Int) ≤ (k : Int) := by omega
    unfold nwSt
    simp [-Int.natCast_add, L4_1, h1]

set_option maxHeartbeats 4000000 in
theorem ev_lawNear (h : List Bool) (fr : Int) (st : Bool) : ∃ O A, ev tab prim 4 [.list 1 (h.map V.bool) false, .int .i64 fr, .bool st] [[], []] = some (.bool true, [O, A]) := by
  obtain ⟨aO, aA, ha⟩ := ev_resAwake
  have m0 : ∀ O A, mm [[]] O A = [[], O, A] := fun _ _ => rfl
  have hhl : (h.map V.bool).length = h.length := List.length_map ..
  by_cases h0 : h.length = 0
  · refine ⟨[], [], ?_⟩
    have e : ((h.length : Int) == 0) = true := by rw [h0]; rfl
    generalize h.map V.bool = Y at *
    rw [ev_fn' tab prim (f := 4) rfl _ _ rfl]
    simp [hhl, e, ha]
  have e0 : ((h.length : Int) == 0) = false := by
    have : ¬ (h.length : Int) = 0 := by omega
    simpa using this
  by_cases h15 : 15 < h.length
  · refine ⟨[], [], ?_⟩
    have e1 : (15 : Int) < (h.length : Int) := by omega
    generalize h.map V.bool = Y at *
    rw [ev_fn' tab prim (f := 4) rfl _ _ rfl]
    simp [hhl, e0, e1, ha]
  have hn : h.length ≤ 15 := by omega
  have e1 : ¬ (15 : Int) < (h.length : Int) := by omega
  have hR := ev_Round fr h.length (by omega) (by omega)
  obtain ⟨r0, r1⟩ := round_in fr h.length (by omega)
  generalize round fr h.length = z at *
  obtain ⟨k, hk, rfl⟩ : ∃ r : Nat, r < h.length ∧ z = (r : Int) := ⟨z.toNat, by omega, by omega⟩
  have hL := nr_loop h st fr hn h.length 0 [] (Nat.zero_add _) (.inl rfl)
  have hg := near_good (st := st) hn
  obtain ⟨x, y, hO, hA, h1⟩ := ev_Classes (nearL h st) (fun _ => hg) [[]] [] [] num_nil num_nil false
  rw [near_E hn] at h1
  obtain ⟨kk, t, q, hH, h1⟩ := h1
  simp only [List.nil_append] at hO hA hH h1
  have hP : ProgAt (.ptr 0 kk 0) (prog (nearL h st)) x y := .held kk t q rfl hH.any (prog_lim hg)
  obtain ⟨x2, y2, hO2, hA2, f1⟩ := at_Field hP hO hA [[]] (kN k) (nF st)
  obtain ⟨x3, y3, hO3, hA3, f2⟩ := at_rMethod (hP.more x2 y2) hO2 hA2 [[]] (kN k) [109] [40, 41, 86]
  have hP3 := (hP.more x2 y2).more x3 y3
  have f3 := at_Dispatch hP3 [[]] (kN k) [109] [40, 41, 86]
  obtain ⟨x4, y4, hO4, hA4, f4⟩ := at_Field hP3 hO3 hA3 [[]] (kN k) ⟨[102], [73], !st⟩
  obtain ⟨x5, y5, hO5, hA5, f5⟩ := at_Field (hP3.more x4 y4) hO4 hA4 [[]] (kN k) ⟨[102], [67], st⟩
  rw [near_fld hn hk] at f1
  rw [near_mth hn hk] at f2
  rw [near_nofld hn hk _ (by cases st <;> rfl)] at f4 f5
  unfold dspF at f3
  rw [near_has hn hk] at f3
  have hW := nw_loop h st kk k hn hk (mm [[]] x y)
  have hN := fun M => ev_near1 (i := k) (by omega) M
  have hkn : (kN k == []) = false := rfl
  refine ⟨x ++ (x2 ++ (x3 ++ (x4 ++ x5))), y ++ (y2 ++ (y3 ++ (y4 ++ y5))), ?_⟩
  clear hP hP3 hH hO hA hO2 hA2 hO3 hA3 hO4 hA4 hO5 hA5 hg
  unfold nrSt at hL
  unfold nwSt at hW
  unfold fieldV at f1 f4 f5
  unfold methodV at f2
  unfold mthV at f3
  unfold nF at f1
  simp only [m0, List.append_assoc, Int.natCast_zero, List.take_zero, List.map_nil, Option.map_none, Option.getD_none, Option.isSome_none] at h1 f1 f2 f3 f4 f5 hL hW
  have w0 : wnt h 0 = [] := rfl
  rw [w0] at hW
  have hns : nsup 0 = [79, 98, 106, 101, 99, 116] := rfl
  rw [hns] at hL
  unfold wnt at hW
  generalize (nearL h st).map Cls.v = X at *
  generalize h.map V.bool = Y at *
  cases hwo : wantO h (k + 1) with
  | none =>
    rw [hwo] at f1 f2 f3 hW
    have f3' : ev tab prim 15 [.ptr 0 kk 0, .str (kN k), .str [109], .str [40, 41, 86]] [[], x ++ (x2 ++ x3), y ++ (y2 ++ y3)] = some (.tup [.str [], mth0.v, .bool false], [[], x ++ (x2 ++ x3), y ++ (y2 ++ y3)]) := by
      rw [f3]; cases st <;> rfl
    clear f3
    simp only [Option.map_none, Option.getD_none, Option.isSome_none] at f1 f2 hW
    unfold mth0 Mth.v Mth.cells at f2 f3'
    simp at f1 f2 f3' f4 f5
    generalize kN k = kn at *
    rw [ev_fn' tab prim (f := 4) rfl _ _ rfl]
    cases st <;> simp at f1 f2 f3' f4 f5 hL hW <;> simp [hhl, e0, e1, hL, h1, hR, hW, hN, f1, f2, f3', f4, f5, ha]
  | some i =>
    rw [hwo] at f1 f2 f3 hW
    simp only [Option.map_some, Option.getD_some, Option.isSome_some, if_true] at f1 f2 hW
    have hki : (kN i == []) = false := rfl
    have hki2 : (kN i != []) = true := rfl
    unfold nM retI at f2
    unfold Mth.v Mth.cells Ins.v at f2
    cases st with
    | true =>
      simp only [if_true, Option.map_none, Option.getD_none, Option.isSome_none] at f3
      unfold mth0 Mth.v Mth.cells at f3
      generalize kN k = kn at *
      generalize kN i = ki at *
      simp at f1 f2 f3 f4 f5 hL hW
      rw [ev_fn' tab prim (f := 4) rfl _ _ rfl]
      simp [hhl, e0, e1, hL, h1, hR, hW, hN, f1, f2, f3, f4, f5, ha, hki, hki2]
    | false =>
      simp only [Bool.false_eq_true, if_false, Option.map_some, Option.getD_some, Option.isSome_some] at f3
      generalize (metF (prog (nearL h false)) (kN i) [109] [40, 41, 86]).getD mth0 = mt at *
      unfold Mth.v Mth.cells at f3
      generalize kN k = kn at *
      generalize kN i = ki at *
      simp at f1 f2 f3 f4 f5 hL hW
      rw [ev_fn' tab prim (f := 4) rfl _ _ rfl]
      simp [hhl, e0, e1, hL, h1, hR, hW, hN, f1, f2, f3, f4, f5, ha, hki, hki2]
end Go.Proofs.YtpajgenngpjbaaaGreat.Ev

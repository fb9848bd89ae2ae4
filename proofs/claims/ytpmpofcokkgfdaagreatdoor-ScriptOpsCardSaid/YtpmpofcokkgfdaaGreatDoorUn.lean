/- Lists of texts; what is looked at; awake; the law ScriptBack. -/
import Derived.Test.YtpmpofcokkgfdaaGreatDoorUm
namespace Go.Proofs.YtpmpofcokkgfdaaGreatDoor.Ev
open Go

/-! ### Lists -/
def listT (ws : List (List UInt8)) : List UInt8 := (ws.map fun w => 32 :: w).flatten
theorem listT_take (ws : List (List UInt8)) (i : Nat) : (listT (ws.take i)).length ≤ (listT ws).length := by
  have : listT ws = listT (ws.take i) ++ listT (ws.drop i) := by
    unfold listT
    rw [← List.flatten_append, ← List.map_append, List.take_append_drop]
  rw [this, List.length_append]
  omega
theorem listT_succ (ws : List (List UInt8)) (i : Nat) (h : i < ws.length) : listT (ws.take (i + 1)) = listT (ws.take i) ++ 32 :: ws[i] := by
  unfold listT
  rw [List.take_succ_eq_append_getElem h, List.map_append, List.flatten_append]
  congr 1
  simp
def liSt (ws : List (List UInt8)) (i : Nat) : St := { env := [(3, .str (listT (ws.take i))), (6, .list 1 (ws.map V.str) false), (7, .int .i64 ws.length), (8, .int .i64 i)], mem := [[], [], []] }
theorem ev_List (ws : List (List UInt8)) (hw : ws.length ≤ 1000000) (ht : (listT ws).length ≤ 1000000) : ev tab prim 14 [.list 1 (ws.map V.str) false] [[], []] = some (.str (listT ws), [[], []]) := by
  have hL := loop_all (b := L14_0) (liSt ws) ws.length (.exit 0, { env := [(3, .str (listT ws))], mem := [[], [], []] })
    (fun i hi => by
      have h1 := listT_take ws (i + 1)
      have h2 := listT_succ ws i hi
      rw [h2] at h1
      have w1 : IntKind.i64.wrap ((i : Int) + 1) = ((i + 1 : Nat) : Int) := by rw [wrap_small] <;> omega
      have g1 : (i : Int) < (ws.length : Int) := by omega
      unfold liSt
      rw [h2]
      generalize listT (ws.take i) = t at *
      have l1 : ([32] : List UInt8).length + (ws[i]).length ≤ 9223372036854775807 := by simp at h1 ⊢; omega
      have l2 : t.length + (32 :: ws[i]).length ≤ 9223372036854775807 := by simp at h1 ⊢; omega
      simp at l1 l2
      simp [L14_0, idxOk, hi, g1, w1, l1, l2])
    (by unfold liSt; simp [L14_0]) (by simp)
  unfold liSt at hL
  have e0 : listT (ws.take 0) = [] := rfl
  rw [e0] at hL
  simp only [Int.cast_ofNat_Int] at hL
  rw [ev_fn' tab prim (f := 14) rfl _ _ rfl]
  simp [hL]
def lrSt (ws : List (List UInt8)) (i : Nat) : St := { env := [(0, .list 1 (ws.map V.str) false), (3, .str (listT (ws.take i))), (4, .int .i64 i)], mem := [[], [], []] }
theorem itoa10 : Lib.itoa 10 = [49, 48] := by
  unfold Lib.itoa
  rw [if_neg (by decide)]
  show Lib.decDigits 10 = _
  rw [dig_step 10 (by decide), dig_small 1 (by decide)]
  rfl
def oRun : Sop := ⟨3, [65, 46, 109, 97, 105, 110, 40, 41, 86], [], 10, [], []⟩
theorem oRun_ok : oRun.lineOk = true := by decide
theorem oRun_line : oRun.line = [114, 117, 110, 32, 65, 46, 109, 97, 105, 110, 40, 41, 86, 32, 49, 48, 32, 45, 32, 45] := by
  rw [Sop.line_ok oRun_ok]
  have : oRun.words = [[114, 117, 110], [65, 46, 109, 97, 105, 110, 40, 41, 86], [49, 48], [45], [45]] := by
    show [kword 3, oRun.a, Lib.itoa 10, numsT [], numsT []] = _
    rw [itoa10]
    decide
  rw [this]
  decide
theorem parse_run : parseP [114, 117, 110, 32, 65, 46, 109, 97, 105, 110, 40, 41, 86, 32, 49, 48, 32, 45, 32, 45] = (oRun, 0) := by
  have h := parseP_line oRun_ok
  rw [oRun_line] at h
  exact h
theorem parse_rings : parseP [114, 105, 110, 103, 115, 32, 120] = (Sop.zero, 7) := by
  have h : sizeOk [114, 105, 110, 103, 115, 32, 120] = false := by decide
  unfold parseP
  rw [h]
  rfl
theorem ev_awakeS : ev tab prim 5 [] [[], []] = some (.bool true, [[], []]) := by
  have h1 := ev_Parse [114, 117, 110, 32, 65, 46, 109, 97, 105, 110, 40, 41, 86, 32, 49, 48, 32, 45, 32, 45] (by simp)
  have h2 := ev_Parse [114, 105, 110, 103, 115, 32, 120] (by simp)
  have h3 := ev_List [[97]] (by simp) (by simp [listT])
  rw [parse_run] at h1
  rw [parse_rings] at h2
  unfold Sop.v Sop.cells oRun at h1
  unfold Sop.v Sop.cells Sop.zero at h2
  have h4 : listT [[97]] = [32, 97] := rfl
  rw [h4] at h3
  rw [ev_fn' tab prim (f := 5) rfl _ _ rfl]
  simp [ints] at h1 h2 h3
  simp [h1, h2, h3]

/-! ### What is looked at -/
def Sop.size (o : Sop) : Int := sumF (o.a.length : Int) [(o.b.length : Int), (o.l.length : Int), (o.m.length : Int)]
theorem ev_smallS (o : Sop) : ev tab prim 4 [o.v] [[], []] = some (.bool (decide (o.size ≤ 1000)), [[], []]) := by
  have h := ev_Sum (o.a.length : Int) [(o.b.length : Int), (o.l.length : Int), (o.m.length : Int)] (by simp) (by omega) (by simp) false
  unfold Sop.size
  unfold Sop.v Sop.cells
  rw [ev_fn' tab prim (f := 4) rfl _ _ rfl]
  have e1 : (ints o.l).length = o.l.length := by simp [ints]
  have e2 : (ints o.m).length = o.m.length := by simp [ints]
  simp at h
  simp [h, e1, e2]
theorem size_sh (o : Sop) (hn : -9223372036854775808 ≤ o.n ∧ o.n ≤ 9223372036854775807) (hl : ∀ n ∈ o.l, -9223372036854775808 ≤ n ∧ n ≤ 9223372036854775807) (hm : ∀ n ∈ o.m, -9223372036854775808 ≤ n ∧ n ≤ 9223372036854775807) (h : o.size ≤ 1000) :
    o.Sh ∧ o.a.length + o.b.length + o.l.length + o.m.length ≤ 1000 := by
  have hh := (sumF_held [(o.b.length : Int), (o.l.length : Int), (o.m.length : Int)] (o.a.length : Int) (by omega) (by simp)).2 (by unfold Sop.size at h; omega)
  unfold Sop.size at h
  rw [hh] at h
  simp at h
  exact ⟨⟨by omega, by omega, hn, hl, hm, by omega, by omega⟩, by omega⟩
theorem ev_made (o : Sop) : ev tab prim 9 [o.v] [[], []] = some (o.v, [[], []]) := by
  unfold Sop.v Sop.cells
  rw [ev_fn' tab prim (f := 9) rfl _ _ rfl]
  simp [ints]

end Go.Proofs.YtpmpofcokkgfdaaGreatDoor.Ev

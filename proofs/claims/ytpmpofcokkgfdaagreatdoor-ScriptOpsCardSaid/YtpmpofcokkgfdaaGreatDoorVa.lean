/- The reference's list, Ints, SameOp; flat. -/
import Derived.Test.YtpmpofcokkgfdaaGreatDoorUn
namespace Go.Proofs.YtpmpofcokkgfdaaGreatDoor.Ev
open Go

theorem numV_range (lo hi : Int) (w : List UInt8) : (lo ≤ (numV lo hi w).1 ∧ (numV lo hi w).1 ≤ hi) ∨ (numV lo hi w).1 = 0 := by
  unfold numV
  cases h : numOk lo hi w with
  | false => exact .inr rfl
  | true =>
    unfold numOk at h
    simp only [Bool.and_eq_true, decide_eq_true_eq] at h
    exact .inl h.2
theorem numsF_sh (w : List UInt8) (h : w.length ≤ 50000) : (∀ n ∈ numsF w, -9223372036854775808 ≤ n ∧ n ≤ 9223372036854775807) ∧ (numsF w).length ≤ 100000 := by
  unfold numsF
  split
  · simp
  · refine ⟨fun n hn => ?_, ?_⟩
    · obtain ⟨x, _, rfl⟩ := List.mem_map.1 hn
      rcases numV_range (-2147483648) 2147483647 x with h1 | h1 <;> omega
    · rw [List.length_map]
      have := cutB_count 44 w
      omega

def nfSt (ws : List (List UInt8)) (i : Nat) : St := { env := [(3, .list 1 (ws.map V.str) false), (4, .list 1 (ints ((ws.take i).map fun s => (numV (-2147483648) 2147483647 s).1)) true), (5, .int .i64 i)], mem := [[], [], []] }
theorem nf_loop (ws : List (List UInt8)) (hw : ws.length ≤ 100000) : cv tab prim (.loop L23_0) (nfSt ws 0) = some (.exit 0, { env := [(4, .list 1 (ints (ws.map fun s => (numV (-2147483648) 2147483647 s).1)) true)], mem := [[], [], []] }) := by
  refine loop_all (nfSt ws) ws.length _ (fun i hi => ?_) ?_ (by simp)
  · have hA := ev_Num (-2147483648) 2147483647 ws[i]
    have w1 : IntKind.i64.wrap ((i : Int) + 1) = ((i + 1 : Nat) : Int) := by rw [wrap_small] <;> omega
    have ht : (ws.take (i + 1)).map (fun s => (numV (-2147483648) 2147483647 s).1) = (ws.take i).map (fun s => (numV (-2147483648) 2147483647 s).1) ++ [(numV (-2147483648) 2147483647 ws[i]).1] := by rw [List.take_succ_eq_append_getElem hi, List.map_append]; rfl
    have hm : min i ws.length = i := by omega
    have b1 : i + 1 ≤ 140737488355328 := by omega
    have b2 : (i + 1) * 8 ≤ 140737488355328 := by omega
    have g1 : (i : Int) < (ws.length : Int) := by omega
    unfold nfSt
    rw [ht]
    generalize numV (-2147483648) 2147483647 ws[i] = p at *
    obtain ⟨v, b⟩ := p
    simp [L23_0, ints, idxOk, hi, hA, w1, hm, b1, b2, g1]
  · unfold nfSt
    simp [L23_0, ints]
theorem ev_rlist (w : List UInt8) (h : w.length ≤ 50000) : ev tab prim 23 [.str w] [[], []] = some (.list 1 (ints (numsF w)) true, [[], []]) := by
  have hsp := ev_Cut 44 w (by omega)
  have hcl := cutB_count 44 w
  have hL := nf_loop (cutB 44 w) (by omega)
  unfold nfSt at hL
  unfold numsF
  generalize cutB 44 w = ws at *
  rw [ev_fn' tab prim (f := 23) rfl _ _ rfl]
  have h44 : ((44 : UInt8).toNat : Int) = 44 := rfl
  rw [h44] at hsp
  by_cases h0 : w = [45]
  · subst h0
    simp [ints]
  · have h1 : (w == [45]) = false := by simpa using h0
    rw [if_neg h0]
    simp [ints] at hL
    simp [ints, h1, hsp, hL]

theorem ev_Ints (l : List Int) (hw : l.length ≤ 1000000) : ev tab prim 29 [.list 1 (ints l) false, .list 1 (ints l) false] [[], []] = some (.bool true, [[], []]) := by
  have hL := loop_all (b := L29_0) (fun i => { env := [(0, .list 1 (ints l) false), (1, .list 1 (ints l) false), (5, .int .i64 (i : Nat))], mem := [[], [], []] }) l.length (.exit 0, { env := [], mem := [[], [], []] })
    (fun i hi => by
      have w1 : IntKind.i64.wrap ((i : Int) + 1) = ((i + 1 : Nat) : Int) := by rw [wrap_small] <;> omega
      have g1 : (i : Int) < (l.length : Int) := by omega
      simp [L29_0, ints, idxOk, hi, g1, w1])
    (by simp [L29_0, ints]) (by simp)
  simp only [Int.cast_ofNat_Int] at hL
  rw [ev_fn' tab prim (f := 29) rfl _ _ rfl]
  simp [ints] at hL
  simp [ints, hL]
theorem ev_SameOp (o : Sop) (h1 : o.l.length ≤ 1000000) (h2 : o.m.length ≤ 1000000) : ev tab prim 11 [o.v, o.v] [[], []] = some (.bool true, [[], []]) := by
  have i1 := ev_Ints o.l h1
  have i2 := ev_Ints o.m h2
  unfold Sop.v Sop.cells
  rw [ev_fn' tab prim (f := 11) rfl _ _ rfl]
  simp [i1, i2]
theorem ev_flat (o : Sop) : ev tab prim 12 [o.v] [[], []] = some (o.v, [[], []]) := by
  unfold Sop.v Sop.cells
  rw [ev_fn' tab prim (f := 12) rfl _ _ rfl]
  simp [ints]

/-! ### ParseOp -/
def pdSt (s : List UInt8) (ws : List (List UInt8)) : St := { env := [(0, .str s), (2, .ptr 2 2 0), (4, .list 1 (ws.map V.str) true)], mem := [[(2, Sop.zero.own)], [], []] }
theorem pd_loop (s : List UInt8) : ∀ n (ws : List (List UInt8)), 5 - ws.length = n → ws.length ≤ 200000 → cv tab prim (.loop L7_0) (pdSt s ws) = some (.exit 0, pdSt s (pad5 ws)) := by
  intro n
  induction n with
  | zero =>
    intro ws hn hl
    have e : pad5 ws = ws := by unfold pad5; rw [hn]; simp
    have g1 : ¬ (ws.length : Int) < 5 := by omega
    have g2 : ¬ ws.length < 5 := by omega
    rw [e, cv_loop']
    unfold pdSt Sop.own
    simp [L7_0, g1, g2]
  | succ n ih =>
    intro ws hn hl
    have e : pad5 (ws ++ [[]]) = pad5 ws := by
      unfold pad5
      have e1 : 5 - ws.length = (5 - (ws ++ [([] : List UInt8)]).length) + 1 := by simp; omega
      rw [e1, List.replicate_succ, List.append_assoc]
      rfl
    have g1 : (ws.length : Int) < 5 := by omega
    have g2 : ws.length < 5 := by omega
    have b1 : ws.length + 1 ≤ 140737488355328 := by omega
    have b2 : (ws.length + 1) * 16 ≤ 140737488355328 := by omega
    have hs : cv tab prim L7_0 (pdSt s ws) = some (.normal, pdSt s (ws ++ [[]])) := by
      unfold pdSt Sop.own
      simp [L7_0, g1, g2, b1, b2]
    rw [cv_loop', hs, roundK_n, ih _ (by simp; omega) (by simp; omega), e]

theorem rIaddr_0 (x : V) (r : List V) (o : Bool) (hx : x.cells = [x]) : rIaddr 1 [.list 1 (x :: r) o, .int .i64 0] = some (.cptr [x]) := by
  have : idxOk 0 (x :: r).length = true := by simp [idxOk]
  simp only [rIaddr]
  rw [if_pos ⟨trivial, this⟩]
  show some (V.cptr x.cells) = _
  rw [hx]

def kfold (w : List UInt8) (m : Nat) : Int := (List.range m).foldl (fun (c : Int) (k : Nat) => if 1 ≤ k ∧ kword (k : Int) = w then (k : Int) else c) 0
theorem kfold_succ (w : List UInt8) (m : Nat) (h : 1 ≤ m) : kfold w (m + 1) = if kword (m : Int) = w then (m : Int) else kfold w m := by
  unfold kfold
  rw [List.range_succ, List.foldl_append]
  simp [h]
def kdB (c : Int) : List V := [.int .i64 c, .str [], .str [], .int .i64 0, .list 1 [] true, .list 1 [] true]
def kdSt (s w0 : List UInt8) (r : List V) (j : Nat) : St := { env := [(0, .str s), (2, .ptr 2 2 0), (4, .list 1 (.str w0 :: r) true), (5, .ptr 2 5 0), (6, .list 1 wordsV false), (7, .int .i64 (j + 1 : Nat))], mem := [[(2, Sop.zero.own), (5, kdB (kfold w0 (j + 1)))], [], []] }
theorem kd_loop (s w0 : List UInt8) (r : List V) : cv tab prim (.loop L7_1) (kdSt s w0 r 0) = some (.exit 2, { env := [(0, .str s), (2, .ptr 2 2 0), (4, .list 1 (.str w0 :: r) true), (5, .ptr 2 5 0)], mem := [[(2, Sop.zero.own), (5, kdB (kindL w0))], [], []] }) := by
  have hwl : wordsV.length = 16 := rfl
  refine loop_all (kdSt s w0 r) 15 _ (fun j hj => ?_) ?_ (by simp)
  · have hI := of_map' iaddr_table (show j + 1 < 16 by omega)
    have w1 : IntKind.i64.wrap (((j + 1 : Nat) : Int) + 1) = ((j + 1 + 1 : Nat) : Int) := by rw [wrap_small] <;> omega
    have g1 : ((j + 1 : Nat) : Int) < 16 := by omega
    have hk := kfold_succ w0 (j + 1) (by omega)
    have hix : idxOk 0 (r.length + 1) = true := by simp [idxOk]
    have h0 := rIaddr_0 (.str w0) r false rfl
    unfold kdSt
    rw [hk]
    generalize kfold w0 (j + 1) = c at *
    generalize ((j + 1 : Nat) : Int) = z at *
    generalize wordsV = wv at *
    unfold kdB Sop.own Sop.zero
    by_cases hq : kword z = w0
    · have hq' : (kword z == w0) = true := by simpa using hq
      rw [if_pos hq]
      simp [-rIaddr, L7_1, hwl, g1, hI, w1, hq', hix, h0]
    · have hq' : (kword z == w0) = false := by simpa using hq
      rw [if_neg hq]
      simp [-rIaddr, L7_1, hwl, g1, hI, w1, hq', hix, h0]
  · have e : kfold w0 (15 + 1) = kindL w0 := rfl
    unfold kdSt
    rw [e]
    generalize wordsV = wv at *
    unfold kdB Sop.own Sop.zero
    simp [L7_1, hwl]

end Go.Proofs.YtpmpofcokkgfdaaGreatDoor.Ev

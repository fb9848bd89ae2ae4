/- script.nums, reads and Parse. -/
import Derived.Test.YtpmpofcokkgfdaaGreatDoorUj
namespace Go.Proofs.YtpmpofcokkgfdaaGreatDoor.Ev
open Go

theorem atoiV_range (w : List UInt8) : -9223372036854775808 ≤ (atoiV w).1 ∧ (atoiV w).1 ≤ 9223372036854775807 := by
  unfold atoiV
  cases h : Lib.atoiAll w
  case range => simp only [Lib.atoiSat]; split <;> decide
  case ok v =>
    show -9223372036854775808 ≤ v ∧ v ≤ 9223372036854775807
    unfold Lib.atoiAll at h
    split at h
    · cases h
    · simp only at h
      split at h
      · cases h
      · cases h
      · rename_i u hu
        have := Lib.parseMag_lt hu
        split at h
        · cases h
        · split at h
          · cases h
          · injection h with h
            subst h
            split <;> omega
  show (-9223372036854775808 : Int) ≤ 0 ∧ (0 : Int) ≤ 9223372036854775807
  decide

/-! ### nums -/
def nrSt (ws : List (List UInt8)) (i : Nat) : St := { env := [(2, .list 1 (ints ((ws.take i).map fun s => (atoiV s).1)) true), (10, .list 1 (ws.map V.str) true), (11, .int .i64 ws.length), (12, .int .i64 i)], mem := [[], [], []] }
theorem nr_loop (ws : List (List UInt8)) (hw : ws.length ≤ 100000) (hl : ∀ w ∈ ws, w.length ≤ 100000) : cv tab prim (.loop L32_0) (nrSt ws 0) = some (.exit 0, { env := [(2, .list 1 (ints (ws.map fun s => (atoiV s).1)) true)], mem := [[], [], []] }) := by
  refine loop_all (nrSt ws) ws.length _ (fun i hi => ?_) ?_ (by simp)
  · have hA := ev_AtoiB ws[i] (by have := hl _ (List.getElem_mem hi); omega) [[], [], []]
    have w1 : IntKind.i64.wrap ((i : Int) + 1) = ((i + 1 : Nat) : Int) := by rw [wrap_small] <;> omega
    have ht : (ws.take (i + 1)).map (fun s => (atoiV s).1) = (ws.take i).map (fun s => (atoiV s).1) ++ [(atoiV ws[i]).1] := by rw [List.take_succ_eq_append_getElem hi, List.map_append]; rfl
    have hm : min i ws.length = i := by omega
    have b1 : i + 1 ≤ 140737488355328 := by omega
    have b2 : (i + 1) * 8 ≤ 140737488355328 := by omega
    have g1 : (i : Int) < (ws.length : Int) := by omega
    unfold nrSt
    rw [ht]
    generalize atoiV ws[i] = p at *
    obtain ⟨v, b⟩ := p
    simp [L32_0, ints, idxOk, hi, hA, w1, hm, b1, b2, g1]
  · unfold nrSt
    simp [L32_0, ints]
theorem ev_nums (w : List UInt8) (h : w.length ≤ 50000) : ev tab prim 32 [.str w] [[], []] = some (.list 1 (ints (numsR w)) true, [[], []]) := by
  have hsp := ev_SplitB w 44 (by omega) [[], []]
  have hcl := cutB_count 44 w
  have hL := nr_loop (cutB 44 w) (by omega) (fun x hx => by have := cutB_len 44 w x hx; omega)
  unfold nrSt at hL
  unfold numsR
  generalize cutB 44 w = ws at *
  rw [ev_fn' tab prim (f := 32) rfl _ _ rfl]
  by_cases h0 : w = [45]
  · subst h0
    simp [ints]
  · have h1 : (w == [45]) = false := by simpa using h0
    rw [if_neg h0]
    simp [ints] at hL
    simp [ints, h1, hsp, hL]

/-! ### reads -/
/-- An op as a box holds it. -/
def Sop.own (o : Sop) : List V := [.int .i64 o.k, .str o.a, .str o.b, .int .i64 o.n, .list 1 (ints o.l) true, .list 1 (ints o.m) true]

theorem ev_reads (o : Sop) (f : UInt8) (w : List UInt8) (hw : w.length ≤ 50000) : ev tab prim 19 [.ptr 2 2 0, .int .u8 f.toNat, .str w] [[(2, o.own)], [], []] = some (.tup [], [[(2, (readF f w o).own)], [], []]) := by
  have key : ∀ c : UInt8, ((f.toNat : Int) == (c.toNat : Int)) = decide (f = c) := fun c => by
    rw [Bool.eq_iff_iff, beq_iff_eq, decide_eq_true_iff]
    exact ⟨fun h => UInt8.toNat_inj.1 (by omega), fun h => by rw [h]⟩
  have k1 : ((f.toNat : Int) == 104) = decide (f = 104) := key 104
  have k2 : ((f.toNat : Int) == 97) = decide (f = 97) := key 97
  have k3 : ((f.toNat : Int) == 98) = decide (f = 98) := key 98
  have k4 : ((f.toNat : Int) == 110) = decide (f = 110) := key 110
  have k5 : ((f.toNat : Int) == 108) = decide (f = 108) := key 108
  clear key
  have hA := ev_AtoiB w (by omega) [[], [(2, o.own)], [], []]
  have hN := ev_nums w hw
  unfold Sop.own at *
  unfold readF
  generalize (f.toNat : Int) = z at *
  generalize numsR w = nr at *
  generalize atoiV w = av at *
  obtain ⟨av, ab⟩ := av
  rw [ev_fn' tab prim (f := 19) rfl _ _ rfl]
  by_cases h1 : f = 104
  · rw [decide_eq_true h1] at k1
    simp [h1, k1]
  rw [decide_eq_false h1] at k1
  by_cases h2 : f = 97
  · rw [decide_eq_true h2] at k2
    simp [h2, k1, k2]
  rw [decide_eq_false h2] at k2
  by_cases h3 : f = 98
  · rw [decide_eq_true h3] at k3
    simp [h3, k1, k2, k3]
  rw [decide_eq_false h3] at k3
  by_cases h4 : f = 110
  · rw [decide_eq_true h4] at k4
    simp [h4, k1, k2, k3, k4, hA]
  rw [decide_eq_false h4] at k4
  by_cases h5 : f = 108
  · rw [decide_eq_true h5] at k5
    simp [h5, k1, k2, k3, k4, k5, hN]
  rw [decide_eq_false h5] at k5
  simp [h1, h2, h3, h4, h5, k1, k2, k3, k4, k5, hN]

end Go.Proofs.YtpmpofcokkgfdaaGreatDoor.Ev

/- The law of limits: all of it. -/
import Derived.Test.YtgmlanhhjmhmmaaHb
namespace Go.Proofs.Ytgmlanhhjmhmmaa.Ev
open Go

def K0 (fs : List Fld) (ms : List Mth) : Cls := ⟨[65], OB, false, false, [], fs, ms⟩
def MK (st lo : Int) (code : List Ins) (hs : List Hnd) : Mth := ⟨[109], [40, 41, 86], true, false, st, lo, code, hs⟩
theorem MK_v : Mth.v (MK 0 0 [R0] []) = M0v := rfl

theorem MG_of (st lo : Int) (code : List Ins) (hs : List Hnd) (h1 : 0 ≤ st ∧ st ≤ 220) (h2 : 0 ≤ lo ∧ lo ≤ 220) (h3 : ∀ x ∈ code, x = R0 ∨ x = N0) (h4 : 1 ≤ code.length) (h5 : code.length ≤ 220) (h6 : ∀ x ∈ hs, x = H0) (h7 : hs.length ≤ 220) : MG (MK st lo code hs) :=
  ⟨rfl, rfl, rfl, rfl, h3, h4, h5, h6, h7, h1, h2⟩

theorem ft_F0 : fT F0 = [[102], [73]] := rfl
theorem tx_R0 : R0.texts = [] := by kernel_rfl
theorem tx_N0 : N0.texts = [] := by kernel_rfl

theorem mT_len {m : Mth} (h : MG m) : (mT m).length = 2 + m.hs.length := by
  have e : m.code.flatMap Ins.texts = [] := by
    rw [List.flatMap_eq_nil_iff]
    intro x hx
    rcases h.code x hx with rfl | rfl
    · exact tx_R0
    · exact tx_N0
  simp only [mT, e, List.length_append, List.length_cons, List.length_nil, List.length_map]; omega

theorem K0_texts (fs : List Fld) (ms : List Mth) (h : KG (K0 fs ms)) (k : Nat) (hk : ∀ m ∈ ms, m.hs.length ≤ k) : (K0 fs ms).texts.length ≤ 2 + 2 * fs.length + (2 + k) * ms.length := by
  have h1 := flatMap_len fT 2 fs fun a _ => by simp [fT]
  have h2 := flatMap_len mT (2 + k) ms fun a ha => by rw [mT_len (h.ms a ha)]; have := hk a ha; omega
  simp only [Cls.texts, K0, List.length_append, List.length_cons, List.length_nil]
  omega

theorem err_fs (n : Nat) (hn : n ≤ 220) : (K0 (List.replicate n F0) []).err = (bif decide (20 < n) then 5 else 0) ∧ KG (K0 (List.replicate n F0) []) := by
  have hg : KG (K0 (List.replicate n F0) []) := ⟨rfl, rfl, rfl, fun f hf => (List.mem_replicate.1 hf).2, by simpa [K0] using hn, by simp [K0], by simp [K0], 0, by simp [K0]⟩
  refine ⟨?_, hg⟩
  have ht := K0_texts _ _ hg 0 (by simp)
  simp only [List.length_replicate, List.length_nil] at ht
  rw [hg.err (.inl (by omega))]
  simp [K0, firstE]

theorem err_ms (n : Nat) (h0 : 1 ≤ n) (hn : n ≤ 220) : (K0 [] (List.replicate n (MK 0 0 [R0] []))).err = (bif decide (20 < n) then 5 else 0) ∧ KG (K0 [] (List.replicate n (MK 0 0 [R0] []))) := by
  have hm : MG (MK 0 0 [R0] []) := MG_of 0 0 [R0] [] (by omega) (by omega) (by simp) (by simp) (by simp) (by simp) (by simp)
  have hg : KG (K0 [] (List.replicate n (MK 0 0 [R0] []))) := ⟨rfl, rfl, rfl, by simp [K0], by simp [K0], by simpa [K0] using hn, fun m h => by rw [(List.mem_replicate.1 h).2]; exact hm, 7, fun m h => by rw [(List.mem_replicate.1 h).2]; simp [MK], by simp [K0]; omega⟩
  refine ⟨?_, hg⟩
  have ht := K0_texts _ _ hg 0 (fun m h => by rw [(List.mem_replicate.1 h).2]; simp [MK])
  simp only [List.length_replicate, List.length_nil] at ht
  have he : errM (MK 0 0 [R0] []) = 0 := by rw [hm.err]; rfl
  rw [hg.err (.inl (by omega))]
  have hf : firstE errM (List.replicate n (MK 0 0 [R0] [])) = 0 := firstE_all _ _ fun m h => by rw [(List.mem_replicate.1 h).2]; exact he
  simp [K0, hf]

theorem err_m1 (m : Mth) (hm : MG m) (hb : 5 + 2 * m.code.length + m.hs.length ≤ 6000) : (K0 [] [m]).err = (bif limM m then 0 else 5) ∧ KG (K0 [] [m]) := by
  have hg : KG (K0 [] [m]) := ⟨rfl, rfl, rfl, by simp [K0], by simp [K0], by simp [K0], by simpa [K0] using hm, 6000, by simpa [K0] using hb, by simp [K0]⟩
  refine ⟨?_, hg⟩
  have ht := K0_texts _ _ hg 220 (by simpa using hm.h2)
  simp only [List.length_cons, List.length_nil] at ht
  rw [hg.err (.inl (by omega))]
  have he := hm.err
  simp only [K0, List.length_nil, List.length_cons, firstE]
  cases hl : limM m <;> rw [hl] at he
  · rw [he]; rfl
  · rw [he]; rfl

theorem lim_of (st lo : Int) (code : List Ins) (hs : List Hnd) : limM (MK st lo code hs) = decide (0 ≤ st ∧ st ≤ 20 ∧ 0 ≤ lo ∧ lo ≤ 20 ∧ code.length ≤ 200 ∧ hs.length ≤ 20) := by
  have e1 : ((code.length : Int) ≤ 200) ↔ code.length ≤ 200 := by omega
  have e2 : ((hs.length : Int) ≤ 20) ↔ hs.length ≤ 20 := by omega
  unfold limM MK
  dsimp only
  by_cases h1 : 0 ≤ st <;> by_cases h2 : st ≤ 20 <;> by_cases h3 : 0 ≤ lo <;> by_cases h4 : lo ≤ 20 <;> by_cases h5 : code.length ≤ 200 <;> by_cases h6 : hs.length ≤ 20 <;> simp [h1, h2, h3, h4, h5, h6, e1, e2]

set_option maxHeartbeats 16000000 in
theorem limit0 (what : Int) (n : Nat) (h1 : 1 ≤ n) (h2 : n ≤ 220) (hr : round what 6 = 0) : ev tab prim 5 [.int .i64 what, .int .i64 n] [[], []] = some (.bool true, [[], []]) := by
  have hR := ev19 what 6 (by omega) (by omega)
  rw [hr] at hR
  obtain ⟨he, hg⟩ := err_fs n h2
  have hC := ev_CheckG _ hg
  rw [he] at hC
  have l0 := lLoop0 (mC 0 0 (.full 6 [R0.v]) (.full 4 [])) (.full 8 []) n h2
  rw [grow_0, grow_p _ _ _ _ (by omega)] at l0
  have p1 : ¬ (n : Int) < 1 := by omega
  have p2 : ¬ 220 < (n : Int) := by omega
  simp only [Cls.v, Cls.cells, K0, OB, List.map_nil, List.map_replicate] at hC
  simp only [bM, cC, mC, R0, Ins.v, OB, List.nil_append] at l0
  rw [ev_fn' tab prim (f := 5) rfl _ _ rfl]
  by_cases p3 : 20 < n
  · have p3' : 20 < (n : Int) := by omega
    simp only [p3, decide_true, cond_true] at hC
    simp [p1, p2, p3', hR, l0, hC, ev_awakeP]
  · have p3' : ¬ 20 < (n : Int) := by omega
    simp only [p3, decide_false, cond_false] at hC
    simp [p1, p2, p3', hR, l0, hC, ev_awakeP]

set_option maxHeartbeats 16000000 in
theorem limit1 (what : Int) (n : Nat) (h1 : 1 ≤ n) (h2 : n ≤ 220) (hr : round what 6 = 1) : ev tab prim 5 [.int .i64 what, .int .i64 n] [[], []] = some (.bool true, [[], []]) := by
  have hR := ev19 what 6 (by omega) (by omega)
  rw [hr] at hR
  obtain ⟨he, hg⟩ := err_ms n h1 h2
  have hC := ev_CheckG _ hg
  rw [he] at hC
  have l1 := lLoop1 (.full 3 []) n h2
  rw [grow_0, grow_p _ _ _ _ (by omega)] at l1
  have p1 : ¬ (n : Int) < 1 := by omega
  have p2 : ¬ 220 < (n : Int) := by omega
  simp only [Cls.v, Cls.cells, K0, OB, List.map_nil, List.map_replicate, MK_v] at hC
  generalize M0v = mv at *
  simp only [bM, cC, mC, R0, Ins.v, OB, List.nil_append] at l1
  rw [ev_fn' tab prim (f := 5) rfl _ _ rfl]
  by_cases p3 : 20 < n
  · have p3' : 20 < (n : Int) := by omega
    simp only [p3, decide_true, cond_true] at hC
    simp [p1, p2, p3', hR, l1, hC, ev_awakeP]
  · have p3' : ¬ 20 < (n : Int) := by omega
    simp only [p3, decide_false, cond_false] at hC
    simp [p1, p2, p3', hR, l1, hC, ev_awakeP]

theorem mv_eq (st lo : Int) (code : List Ins) (hs : List Hnd) : Cls.v (K0 [] [MK st lo code hs]) = .agg [.str [65], .str [79, 98, 106, 101, 99, 116], .bool false, .bool false, .list 1 [] false, .list 3 [] false,
    .list 8 [.agg [.str [109], .str [40, 41, 86], .bool true, .bool false, .int .i64 st, .int .i64 lo, .list 6 (code.map Ins.v) false, .list 4 (hs.map Hnd.v) false]] false] := rfl

set_option maxHeartbeats 16000000 in
theorem limit2 (what : Int) (n : Nat) (h1 : 1 ≤ n) (h2 : n ≤ 220) (hr : round what 6 = 2) : ev tab prim 5 [.int .i64 what, .int .i64 n] [[], []] = some (.bool true, [[], []]) := by
  have hR := ev19 what 6 (by omega) (by omega)
  rw [hr] at hR
  have hm : MG (MK 0 0 (R0 :: List.replicate (n - 1) N0) []) := MG_of _ _ _ _ (by omega) (by omega) (fun x hx => by
    rcases List.mem_cons.1 hx with rfl | hx
    · exact .inl rfl
    · exact .inr (List.mem_replicate.1 hx).2) (by simp) (by simp; omega) (by simp) (by simp)
  obtain ⟨he, hg⟩ := err_m1 _ hm (by simp [MK]; omega)
  have hC := ev_CheckG _ hg
  rw [he, lim_of, mv_eq] at hC
  simp only [List.map_cons, List.map_nil, List.map_replicate, List.length_cons, List.length_replicate, List.length_nil] at hC
  have l2 := lLoop2 (.full 4 []) (cC (.full 3 []) (.full 8 [])) n h1 h2
  have p1 : ¬ (n : Int) < 1 := by omega
  have p2 : ¬ 220 < (n : Int) := by omega
  rw [ev_fn' tab prim (f := 5) rfl _ _ rfl]
  rcases Nat.eq_zero_or_pos (n - 1) with h0 | h0
  · rw [h0, grow_0] at l2
    rw [h0] at hC
    simp only [bM, cC, mC, OB] at l2
    have p3' : ¬ 200 < (n : Int) := by omega
    simp at hC
    simp [R0, Ins.v] at l2 hC
    simp [p1, p2, p3', hR, l2, hC, ev_awakeP]
  · rw [grow_0, grow_p _ _ _ _ h0] at l2
    simp only [bM, cC, mC, OB, List.cons_append, List.nil_append] at l2
    generalize List.replicate (n - 1) N0.v = rs at *
    by_cases p3 : 200 < n
    · have p3' : 200 < (n : Int) := by omega
      have p4 : ¬ n - 1 + 1 ≤ 200 := by omega
      simp only [p4, and_false, false_and, decide_false, cond_false] at hC
      simp [R0, Ins.v] at l2 hC
      simp [p1, p2, p3', hR, l2, hC, ev_awakeP]
    · have p3' : ¬ 200 < (n : Int) := by omega
      have p4 : n - 1 + 1 ≤ 200 := by omega
      simp [p4] at hC
      simp [R0, Ins.v] at l2 hC
      simp [p1, p2, p3', hR, l2, hC, ev_awakeP]

set_option maxHeartbeats 16000000 in
theorem limit3 (what : Int) (n : Nat) (h1 : 1 ≤ n) (h2 : n ≤ 220) (hr : round what 6 = 3) : ev tab prim 5 [.int .i64 what, .int .i64 n] [[], []] = some (.bool true, [[], []]) := by
  have hR := ev19 what 6 (by omega) (by omega)
  rw [hr] at hR
  have hm : MG (MK 0 n [R0] []) := MG_of _ _ _ _ (by omega) (by omega) (by simp) (by simp) (by simp) (by simp) (by simp)
  obtain ⟨he, hg⟩ := err_m1 _ hm (by simp [MK])
  have hC := ev_CheckG _ hg
  rw [he, lim_of, mv_eq] at hC
  have p1 : ¬ (n : Int) < 1 := by omega
  have p2 : ¬ 220 < (n : Int) := by omega
  rw [ev_fn' tab prim (f := 5) rfl _ _ rfl]
  by_cases p3 : 20 < n
  · have p3' : 20 < (n : Int) := by omega
    have p4 : ¬ (n : Int) ≤ 20 := by omega
    have p5 : ¬ n ≤ 20 := by omega
    simp [p4, p5, R0, Ins.v] at hC
    simp [p1, p2, p3', hR, hC, ev_awakeP]
  · have p3' : ¬ 20 < (n : Int) := by omega
    have p4 : (n : Int) ≤ 20 := by omega
    have p5 : n ≤ 20 := by omega
    simp [p4, p5, R0, Ins.v] at hC
    simp [p1, p2, p3', hR, hC, ev_awakeP]

set_option maxHeartbeats 16000000 in
theorem limit4 (what : Int) (n : Nat) (h1 : 1 ≤ n) (h2 : n ≤ 220) (hr : round what 6 = 4) : ev tab prim 5 [.int .i64 what, .int .i64 n] [[], []] = some (.bool true, [[], []]) := by
  have hR := ev19 what 6 (by omega) (by omega)
  rw [hr] at hR
  have hm : MG (MK n 0 [R0] []) := MG_of _ _ _ _ (by omega) (by omega) (by simp) (by simp) (by simp) (by simp) (by simp)
  obtain ⟨he, hg⟩ := err_m1 _ hm (by simp [MK])
  have hC := ev_CheckG _ hg
  rw [he, lim_of, mv_eq] at hC
  have p1 : ¬ (n : Int) < 1 := by omega
  have p2 : ¬ 220 < (n : Int) := by omega
  rw [ev_fn' tab prim (f := 5) rfl _ _ rfl]
  by_cases p3 : 20 < n
  · have p3' : 20 < (n : Int) := by omega
    have p4 : ¬ (n : Int) ≤ 20 := by omega
    have p5 : ¬ n ≤ 20 := by omega
    simp [p4, p5, R0, Ins.v] at hC
    simp [p1, p2, p3', hR, hC, ev_awakeP]
  · have p3' : ¬ 20 < (n : Int) := by omega
    have p4 : (n : Int) ≤ 20 := by omega
    have p5 : n ≤ 20 := by omega
    simp [p4, p5, R0, Ins.v] at hC
    simp [p1, p2, p3', hR, hC, ev_awakeP]

set_option maxHeartbeats 16000000 in
theorem limit5 (what : Int) (n : Nat) (h1 : 1 ≤ n) (h2 : n ≤ 220) (hr : round what 6 = 5) : ev tab prim 5 [.int .i64 what, .int .i64 n] [[], []] = some (.bool true, [[], []]) := by
  have hR := ev19 what 6 (by omega) (by omega)
  rw [hr] at hR
  have hm : MG (MK 0 0 [R0] (List.replicate n H0)) := MG_of _ _ _ _ (by omega) (by omega) (by simp) (by simp) (by simp) (fun x hx => (List.mem_replicate.1 hx).2) (by simpa using h2)
  obtain ⟨he, hg⟩ := err_m1 _ hm (by simp [MK]; omega)
  have hC := ev_CheckG _ hg
  rw [he, lim_of, mv_eq] at hC
  simp only [List.map_replicate, List.length_replicate] at hC
  have l3 := lLoop3 (.full 6 [R0.v]) (cC (.full 3 []) (.full 8 [])) n h2
  rw [grow_0, grow_p _ _ _ _ (by omega)] at l3
  simp only [bM, cC, mC, OB, List.nil_append] at l3
  generalize List.replicate n H0.v = rs at *
  have p1 : ¬ (n : Int) < 1 := by omega
  have p2 : ¬ 220 < (n : Int) := by omega
  rw [ev_fn' tab prim (f := 5) rfl _ _ rfl]
  by_cases p3 : 20 < n
  · have p3' : 20 < (n : Int) := by omega
    have p5 : ¬ n ≤ 20 := by omega
    simp [p5, R0, Ins.v] at hC l3
    simp [p1, p2, p3', hR, l3, hC, ev_awakeP]
  · have p3' : ¬ 20 < (n : Int) := by omega
    have p5 : n ≤ 20 := by omega
    simp [p5, R0, Ins.v] at hC l3
    simp [p1, p2, p3', hR, l3, hC, ev_awakeP]

theorem ev_lawLimits (what n : Int) : ev tab prim 5 [.int .i64 what, .int .i64 n] [[], []] = some (.bool true, [[], []]) := by
  by_cases p1 : n < 1
  · rw [ev_fn' tab prim (f := 5) rfl _ _ rfl]
    simp [p1, ev_awakeP]
  by_cases p2 : 220 < n
  · rw [ev_fn' tab prim (f := 5) rfl _ _ rfl]
    simp [p1, p2, ev_awakeP]
  obtain ⟨k, rfl⟩ : ∃ k : Nat, n = (k : Int) := ⟨n.toNat, by omega⟩
  have hr := round_in what 6 (by omega)
  have h : round what 6 = 0 ∨ round what 6 = 1 ∨ round what 6 = 2 ∨ round what 6 = 3 ∨ round what 6 = 4 ∨ round what 6 = 5 := by omega
  rcases h with h | h | h | h | h | h
  · exact limit0 what k (by omega) (by omega) h
  · exact limit1 what k (by omega) (by omega) h
  · exact limit2 what k (by omega) (by omega) h
  · exact limit3 what k (by omega) (by omega) h
  · exact limit4 what k (by omega) (by omega) h
  · exact limit5 what k (by omega) (by omega) h

end Go.Proofs.Ytgmlanhhjmhmmaa.Ev

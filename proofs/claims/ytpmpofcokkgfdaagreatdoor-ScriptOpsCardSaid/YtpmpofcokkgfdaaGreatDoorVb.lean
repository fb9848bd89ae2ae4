/- The reference's reading of an op. -/
import Derived.Test.YtpmpofcokkgfdaaGreatDoorVa
namespace Go.Proofs.YtpmpofcokkgfdaaGreatDoor.Ev
open Go

theorem pad5_form (l : List (List UInt8)) : ∃ w0 w1 w2 w3 w4 r, pad5 l = w0 :: w1 :: w2 :: w3 :: w4 :: r := by
  have h : 5 ≤ (pad5 l).length := by unfold pad5; simp; omega
  generalize pad5 l = p at *
  match p, h with
  | a :: b :: c :: d :: e :: r, _ => exact ⟨a, b, c, d, e, r, rfl⟩
theorem pad5_mem {l : List (List UInt8)} {w : List UInt8} (h : w ∈ pad5 l) : w ∈ l ∨ w = [] := by
  unfold pad5 at h
  rcases List.mem_append.1 h with h | h
  · exact .inl h
  · exact .inr (List.eq_of_mem_replicate h)
theorem iaS1 (a b : List UInt8) (r : List V) (o : Bool) : rIaddr 1 [.list 1 (.str a :: .str b :: r) o, .int .i64 1] = some (.cptr [.str b]) := by
  have : idxOk 1 (V.str a :: .str b :: r).length = true := by simp [idxOk]; omega
  simp only [rIaddr]
  rw [if_pos ⟨trivial, this⟩]
  rfl
theorem iaS2 (a b c : List UInt8) (r : List V) (o : Bool) : rIaddr 1 [.list 1 (.str a :: .str b :: .str c :: r) o, .int .i64 2] = some (.cptr [.str c]) := by
  have : idxOk 2 (V.str a :: .str b :: .str c :: r).length = true := by simp [idxOk]; omega
  simp only [rIaddr]
  rw [if_pos ⟨trivial, this⟩]
  rfl
theorem iaS3 (a b c d : List UInt8) (r : List V) (o : Bool) : rIaddr 1 [.list 1 (.str a :: .str b :: .str c :: .str d :: r) o, .int .i64 3] = some (.cptr [.str d]) := by
  have : idxOk 3 (V.str a :: .str b :: .str c :: .str d :: r).length = true := by simp [idxOk]; omega
  simp only [rIaddr]
  rw [if_pos ⟨trivial, this⟩]
  rfl
theorem iaS4 (a b c d e : List UInt8) (r : List V) (o : Bool) : rIaddr 1 [.list 1 (.str a :: .str b :: .str c :: .str d :: .str e :: r) o, .int .i64 4] = some (.cptr [.str e]) := by
  have : idxOk 4 (V.str a :: .str b :: .str c :: .str d :: .str e :: r).length = true := by simp [idxOk]; omega
  simp only [rIaddr]
  rw [if_pos ⟨trivial, this⟩]
  rfl
theorem numV_i64 (w : List UInt8) : -9223372036854775808 ≤ (numV 0 1000000 w).1 ∧ (numV 0 1000000 w).1 ≤ 9223372036854775807 := by
  rcases numV_range 0 1000000 w with h | h <;> omega
theorem candF_sh (s : List UInt8) (hs : s.length ≤ 50000) : (candF s).Sh := by
  have hl : ∀ k, (w5 s k).length ≤ 50000 := by
    intro k
    unfold w5
    rw [List.getD_eq_getElem?_getD]
    cases h : (pad5 (cutB 32 s))[k]? with
    | none => simp
    | some w =>
      have hm := List.mem_of_getElem? h
      rcases pad5_mem hm with h2 | h2
      · exact Nat.le_trans (cutB_len 32 s w h2) hs
      · subst h2; simp
  have z : -9223372036854775808 ≤ (0 : Int) ∧ (0 : Int) ≤ 9223372036854775807 := by decide
  have h1 := hl 1
  have h2 := hl 2
  have h3 := numsF_sh _ (hl 3)
  have h4 := numsF_sh _ (hl 4)
  have h5 := numV_i64 (w5 s 2)
  unfold candF
  dsimp only
  split
  · exact zero_sh _
  split
  · exact ⟨by show (w5 s 1).length ≤ _; omega, by show (w5 s 2).length ≤ _; omega, z, by simp, by simp, by simp, by simp⟩
  split
  · exact ⟨by show (w5 s 1).length ≤ _; omega, by simp, h5, h3.1, h4.1, h3.2, h4.2⟩
  · exact ⟨by show (w5 s 1).length ≤ _; omega, by simp, z, by simp, by simp, by simp, by simp⟩

theorem ev_ParseOp (s : List UInt8) (hs : s.length ≤ 50000) : ev tab prim 7 [.str s] [[], []] = some (.tup [(parseF s).1.v, .int .i64 (parseF s).2], [[], []]) := by
  have hC := ev_Cut 32 s (by omega)
  have hcnt := cutB_count 32 s
  have hL1 := pd_loop s _ (cutB 32 s) rfl (by omega)
  have hsh := candF_sh s hs
  have hT := ev_rTextOp _ hsh
  have hl5 : ∀ w ∈ pad5 (cutB 32 s), w.length ≤ 50000 := fun w hw => by
    rcases pad5_mem hw with h2 | h2
    · exact Nat.le_trans (cutB_len 32 s w h2) hs
    · subst h2; simp
  obtain ⟨w0, w1, w2, w3, w4, r, hp⟩ := pad5_form (cutB 32 s)
  have e0 : w5 s 0 = w0 := by unfold w5; rw [hp]; rfl
  have e1 : w5 s 1 = w1 := by unfold w5; rw [hp]; rfl
  have e2 : w5 s 2 = w2 := by unfold w5; rw [hp]; rfl
  have e3 : w5 s 3 = w3 := by unfold w5; rw [hp]; rfl
  have e4 : w5 s 4 = w4 := by unfold w5; rw [hp]; rfl
  have hc : candF s = (let k := kindL w0; if k = 9 ∨ k = 13 then ⟨k, [], [], 0, [], []⟩ else if k = 5 then ⟨k, w1, w2, 0, [], []⟩ else if k = 3 ∨ k = 12 then ⟨k, w1, [], (numV 0 1000000 w2).1, numsF w3, numsF w4⟩ else ⟨k, w1, [], 0, [], []⟩) := by
    unfold candF
    rw [e0, e1, e2, e3, e4]
  have hN := ev_Num 0 1000000 w2
  rw [hp] at hL1 hl5
  have h3 := ev_rlist w3 (hl5 w3 (by simp))
  have h4 := ev_rlist w4 (hl5 w4 (by simp))
  have hL2 := kd_loop s w0 ([w1, w2, w3, w4].map V.str ++ r.map V.str)
  have hW := ev_rwords
  unfold parseF
  clear hcnt e0 e1 e2 e3 e4 hl5 hsh hp hs
  rw [hc] at hT ⊢
  clear hc
  unfold pdSt at hL1
  generalize (cutB 32 s) = ws at *
  have ek : kfold w0 (0 + 1) = 0 := rfl
  unfold kdSt at hL2
  rw [ek] at hL2
  generalize wordsV = wv at *
  generalize kindL w0 = k at *
  generalize numsF w3 = n3 at *
  generalize numsF w4 = n4 at *
  generalize numV 0 1000000 w2 = nv at *
  have h32 : ((32 : UInt8).toNat : Int) = 32 := rfl
  rw [h32] at hC
  have hi0 : ints [] = [] := rfl
  have hz : Sop.zero.own = [.int .i64 0, .str [], .str [], .int .i64 0, .list 1 [] true, .list 1 [] true] := rfl
  have hzv : Sop.zero.v = .agg [.int .i64 0, .str [], .str [], .int .i64 0, .list 1 [] false, .list 1 [] false] := rfl
  rw [hz] at hL1 hL2
  unfold kdB at hL2
  simp only [List.map_cons, List.map_nil, List.cons_append, List.nil_append] at hL1 hL2
  simp only [Nat.zero_add, Int.cast_ofNat_Int] at hL2
  have i1 := iaS1 w0 w1 (.str w2 :: .str w3 :: .str w4 :: r.map V.str) false
  have i2 := iaS2 w0 w1 w2 (.str w3 :: .str w4 :: r.map V.str) false
  have i3 := iaS3 w0 w1 w2 w3 (.str w4 :: r.map V.str) false
  have i4 := iaS4 w0 w1 w2 w3 w4 (r.map V.str) false
  clear h32 ek
  dsimp only at hT ⊢
  by_cases c1 : k = 9 ∨ k = 13
  · rw [if_pos c1] at hT ⊢
    generalize hln : Sop.line _ = ln at *
    clear hln
    unfold Sop.v Sop.cells at hT ⊢
    dsimp only at hT ⊢
    try simp only [hi0] at hT
    rcases c1 with rfl | rfl
    all_goals
      by_cases hq : ln = s
      · subst hq
        by_cases hn : ln = []
        · subst hn
          rw [ev_fn' tab prim (f := 7) rfl _ _ rfl]
          simp [-rIaddr, Sop.zero, hi0, hC, hL1, hL2, hW, hT, i1]
        · have hn' : ln.isEmpty = false := by simpa using hn
          have hn2 : (ln == []) = false := by simpa using hn
          rw [ev_fn' tab prim (f := 7) rfl _ _ rfl]
          simp [-rIaddr, hi0, hC, hL1, hL2, hW, hT, i1, hn', hn2]
      · have hq' : (ln == s) = false := by simpa using hq
        rw [ev_fn' tab prim (f := 7) rfl _ _ rfl]
        simp [-rIaddr, Sop.zero, hi0, hC, hL1, hL2, hW, hT, i1, hq']
  rw [if_neg c1] at hT ⊢
  by_cases c2 : k = 5
  · rw [if_pos c2] at hT ⊢
    generalize hln : Sop.line _ = ln at *
    clear hln
    unfold Sop.v Sop.cells at hT ⊢
    dsimp only at hT ⊢
    try simp only [hi0] at hT
    subst c2
    all_goals
      by_cases hq : ln = s
      · subst hq
        by_cases hn : ln = []
        · subst hn
          rw [ev_fn' tab prim (f := 7) rfl _ _ rfl]
          simp [-rIaddr, Sop.zero, hi0, hC, hL1, hL2, hW, hT, i1, i2]
        · have hn' : ln.isEmpty = false := by simpa using hn
          have hn2 : (ln == []) = false := by simpa using hn
          rw [ev_fn' tab prim (f := 7) rfl _ _ rfl]
          simp [-rIaddr, hi0, hC, hL1, hL2, hW, hT, i1, i2, hn', hn2]
      · have hq' : (ln == s) = false := by simpa using hq
        rw [ev_fn' tab prim (f := 7) rfl _ _ rfl]
        simp [-rIaddr, Sop.zero, hi0, hC, hL1, hL2, hW, hT, i1, i2, hq']
  rw [if_neg c2] at hT ⊢
  by_cases c3 : k = 3 ∨ k = 12
  · rw [if_pos c3] at hT ⊢
    obtain ⟨n, nb⟩ := nv
    generalize hln : Sop.line _ = ln at *
    clear hln
    unfold Sop.v Sop.cells at hT ⊢
    dsimp only at hT ⊢
    try simp only [hi0] at hT
    dsimp only at hN
    rcases c3 with rfl | rfl
    all_goals
      by_cases hq : ln = s
      · subst hq
        by_cases hn : ln = []
        · subst hn
          rw [ev_fn' tab prim (f := 7) rfl _ _ rfl]
          simp [-rIaddr, Sop.zero, hi0, hC, hL1, hL2, hW, hT, i1, i2, i3, i4, hN, h3, h4]
        · have hn' : ln.isEmpty = false := by simpa using hn
          have hn2 : (ln == []) = false := by simpa using hn
          rw [ev_fn' tab prim (f := 7) rfl _ _ rfl]
          simp [-rIaddr, hi0, hC, hL1, hL2, hW, hT, i1, i2, i3, i4, hN, h3, h4, hn', hn2]
      · have hq' : (ln == s) = false := by simpa using hq
        rw [ev_fn' tab prim (f := 7) rfl _ _ rfl]
        simp [-rIaddr, Sop.zero, hi0, hC, hL1, hL2, hW, hT, i1, i2, i3, i4, hN, h3, h4, hq']
  · rw [if_neg c3] at hT ⊢
    have k9 : (k == 9) = false := by rw [beq_eq_false_iff_ne]; omega
    have k13 : (k == 13) = false := by rw [beq_eq_false_iff_ne]; omega
    have k5 : (k == 5) = false := by rw [beq_eq_false_iff_ne]; omega
    have k3 : (k == 3) = false := by rw [beq_eq_false_iff_ne]; omega
    have k12 : (k == 12) = false := by rw [beq_eq_false_iff_ne]; omega
    generalize hln : Sop.line _ = ln at *
    clear hln
    unfold Sop.v Sop.cells at hT ⊢
    dsimp only at hT ⊢
    try simp only [hi0] at hT
    all_goals
      by_cases hq : ln = s
      · subst hq
        by_cases hn : ln = []
        · subst hn
          rw [ev_fn' tab prim (f := 7) rfl _ _ rfl]
          simp [-rIaddr, Sop.zero, hi0, hC, hL1, hL2, hW, hT, i1, k9, k13, k5, k3, k12]
        · have hn' : ln.isEmpty = false := by simpa using hn
          have hn2 : (ln == []) = false := by simpa using hn
          rw [ev_fn' tab prim (f := 7) rfl _ _ rfl]
          simp [-rIaddr, hi0, hC, hL1, hL2, hW, hT, i1, k9, k13, k5, k3, k12, hn', hn2]
      · have hq' : (ln == s) = false := by simpa using hq
        rw [ev_fn' tab prim (f := 7) rfl _ _ rfl]
        simp [-rIaddr, Sop.zero, hi0, hC, hL1, hL2, hW, hT, i1, k9, k13, k5, k3, k12, hq']

end Go.Proofs.YtpmpofcokkgfdaaGreatDoor.Ev

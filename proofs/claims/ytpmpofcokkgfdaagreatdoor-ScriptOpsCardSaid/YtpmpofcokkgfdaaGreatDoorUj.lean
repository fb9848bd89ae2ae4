/- The reference's TextOp is script.Text. -/
import Derived.Test.YtpmpofcokkgfdaaGreatDoorUi
namespace Go.Proofs.YtpmpofcokkgfdaaGreatDoor.Ev
open Go

set_option maxHeartbeats 4000000 in
theorem ev_rTextOp (o : Sop) (ho : o.Sh) : ev tab prim 10 [o.v] [[], []] = some (.str o.line, [[], []]) := by
  unfold Sop.line Sop.lineOk
  cases hk : kindR o.k with
  | false =>
    rw [Bool.false_and, if_neg (by decide)]
    unfold Sop.v Sop.cells
    rw [ev_fn' tab prim (f := 10) rfl _ _ rfl]
    unfold kindR at hk
    by_cases h1 : o.k < 1
    · simp [h1]
    · have h2 : 15 < o.k := by
        by_cases h3 : o.k ≤ 15
        · have h4 : 1 ≤ o.k := by omega
          simp [h3, h4] at hk
        · omega
      simp [h1, h2]
  | true =>
    obtain ⟨n, hn, h1, h2⟩ := kindR_nat hk
    have hI := of_map' iaddr_table h2
    rw [← hn] at hI
    have hT := of_map' tab_ascii h2
    rw [← hn] at hT
    simp only [Bool.and_eq_true, decide_eq_true_eq] at hT
    have hkl := hT.2
    have hW := ev_rwords
    have hfs := kind_cases hk
    have g1 : ¬ o.k < 1 := by omega
    have g2 : ¬ 15 < o.k := by omega
    have a1 := ho.a
    have a2 := ho.b
    have a3 := itoa_len o.n ho.n
    have a4 := numsT_len o.l ho.l
    have a5 := numsT_len o.m ho.m
    have a6 := ho.ll
    have a7 := ho.ml
    have i1 := ev_rhexes o.a (by omega)
    have i2 := ev_rplain o.a (by omega)
    have i3 := ev_rplain o.b (by omega)
    have i4 := ev_Decimal o.n ho.n
    have i5 := ev_rnums o.l ho.l ho.ll
    have i6 := ev_rnums o.m ho.m ho.ml
    clear hT h1 h2 hn
    unfold Sop.words
    rw [Bool.true_and, join_tail]
    rcases hfs with ⟨h2, hF⟩ | ⟨h2, hF⟩ | ⟨h2, hF⟩ | ⟨h2, hF⟩ | ⟨⟨h2, h3, h4, h5⟩, hF⟩
    · rw [hF]
      unfold Sop.v Sop.cells
      generalize kword o.k = kw at *
      rw [ev_fn' tab prim (f := 10) rfl _ _ rfl]
      rcases h2 with h2 | h2
      · rw [h2] at hI ⊢
        simp [-rIaddr, hW, hI, tailW]
      · rw [h2] at hI ⊢
        simp [-rIaddr, hW, hI, tailW]
    · rw [hF]
      unfold Sop.v Sop.cells
      generalize kword o.k = kw at *
      rw [ev_fn' tab prim (f := 10) rfl _ _ rfl]
      rw [h2] at hI ⊢
      have l1 : (kw).length + (([32] : List UInt8)).length ≤ 9223372036854775807 := by simp; omega
      simp at l1
      have l2 : (kw ++ [32]).length + (o.a).length ≤ 9223372036854775807 := by simp; omega
      simp at l2
      have l3 : (kw ++ 32 :: o.a).length + (([32] : List UInt8)).length ≤ 9223372036854775807 := by simp; omega
      simp at l3
      have l4 : (kw ++ 32 :: (o.a ++ [32])).length + (o.b).length ≤ 9223372036854775807 := by simp; omega
      simp at l4
      cases p1 : plainT o.a <;> cases p2 : plainT o.b <;> simp [-rIaddr, hW, hI, tailW, i2, i3, p1, p2, l1, l2, l3, l4, Sop.ok, Sop.word]
    · rw [hF]
      have e4 : (o.word 110) = Lib.itoa o.n := rfl
      have e5 : (o.word 108) = numsT o.l := rfl
      have e6 : (o.word 109) = numsT o.m := rfl
      unfold Sop.v Sop.cells
      generalize kword o.k = kw at *
      have hal : ([97, 110, 108, 109] : List UInt8).all o.ok = (plainT o.a && ((decide (0 ≤ o.n) && decide (o.n ≤ 1000000)) && (numsOk o.l && numsOk o.m))) := by
        simp [Sop.ok]
      have htl : tailW o [97, 110, 108, 109] = 32 :: (o.a ++ 32 :: (Lib.itoa o.n ++ 32 :: (numsT o.l ++ 32 :: numsT o.m))) := by
        simp [tailW, Sop.word]
      rw [hal, htl]
      generalize hit : Lib.itoa o.n = it at *
      generalize numsT o.l = tl at *
      generalize numsT o.m = tm at *
      generalize numsOk o.l = okl at *
      generalize numsOk o.m = okm at *
      have l1 : (kw).length + (([32] : List UInt8)).length ≤ 9223372036854775807 := by simp; omega
      simp at l1
      have l2 : (kw ++ [32]).length + (o.a).length ≤ 9223372036854775807 := by simp; omega
      simp at l2
      have l3 : (kw ++ 32 :: o.a).length + (([32] : List UInt8)).length ≤ 9223372036854775807 := by simp; omega
      simp at l3
      have l4 : (kw ++ 32 :: (o.a ++ [32])).length + (it).length ≤ 9223372036854775807 := by simp; omega
      simp at l4
      have l5 : (kw ++ 32 :: (o.a ++ 32 :: it)).length + (([32] : List UInt8)).length ≤ 9223372036854775807 := by simp; omega
      simp at l5
      have l6 : (kw ++ 32 :: (o.a ++ 32 :: (it ++ [32]))).length + (tl).length ≤ 9223372036854775807 := by simp; omega
      simp at l6
      have l7 : (kw ++ 32 :: (o.a ++ 32 :: (it ++ 32 :: tl))).length + (([32] : List UInt8)).length ≤ 9223372036854775807 := by simp; omega
      simp at l7
      have l8 : (kw ++ 32 :: (o.a ++ 32 :: (it ++ 32 :: (tl ++ [32])))).length + (tm).length ≤ 9223372036854775807 := by simp; omega
      simp at l8
      have run : ∀ k : Int, (k = 3 ∨ k = 12) → rIaddr 1 [.list 1 wordsV false, .int .i64 k] = some (V.cptr [.str kw]) →
          finK A10.results (cv tab prim A10.body { env := [(0, .agg [.int .i64 k, .str o.a, .str o.b, .int .i64 o.n, .list 1 (ints o.l) false, .list 1 (ints o.m) false])], mem := [[], [], []] }) =
            some (.str (if (plainT o.a && ((decide (0 ≤ o.n) && decide (o.n ≤ 1000000)) && (okl && okm))) = true then kw ++ 32 :: (o.a ++ 32 :: (it ++ 32 :: (tl ++ 32 :: tm))) else []), [[], []]) := by
        intro k hk2 hI2
        have c1 : ¬ k < 1 := by omega
        have c2 : ¬ 15 < k := by omega
        rcases hk2 with rfl | rfl
        all_goals
          cases p1 : plainT o.a
          · simp [-rIaddr, A10, hW, hI2, i2, i4, i5, i6, p1]
          by_cases q1 : o.n < 0
          · have q2 : ¬ 0 ≤ o.n := by omega
            simp [-rIaddr, A10, hW, hI2, i2, i4, i5, i6, p1, q1, q2]
          have q2 : 0 ≤ o.n := by omega
          by_cases q3 : 1000000 < o.n
          · have q4 : ¬ o.n ≤ 1000000 := by omega
            simp [-rIaddr, A10, hW, hI2, i2, i4, i5, i6, p1, q1, q2, q3, q4]
          have q4 : o.n ≤ 1000000 := by omega
          cases okl
          · simp [-rIaddr, A10, hW, hI2, i2, i4, i5, i6, p1, q1, q2, q3, q4]
          cases okm
          · simp [-rIaddr, A10, hW, hI2, i2, i4, i5, i6, p1, q1, q2, q3, q4]
          simp [-rIaddr, A10, hW, hI2, i2, i4, i5, i6, p1, q1, q2, q3, q4, l1, l2, l3, l4, l5, l6, l7, l8]
      rw [ev_fn' tab prim (f := 10) rfl _ _ rfl]
      exact run o.k h2 hI
    · rw [hF]
      unfold Sop.v Sop.cells
      generalize kword o.k = kw at *
      rw [ev_fn' tab prim (f := 10) rfl _ _ rfl]
      rw [h2] at hI ⊢
      have l1 : kw.length + 1 ≤ 9223372036854775807 := by omega
      have l2 : kw.length + 1 + o.a.length ≤ 9223372036854775807 := by omega
      have l3 : kw.length + (o.a.length + 1) ≤ 9223372036854775807 := by omega
      cases p1 : hexT o.a <;> simp [-rIaddr, hW, hI, tailW, i1, p1, l1, l2, l3, Sop.ok, Sop.word]
    · rw [hF]
      unfold Sop.v Sop.cells
      generalize kword o.k = kw at *
      rw [ev_fn' tab prim (f := 10) rfl _ _ rfl]
      have c1 : (o.k == 9) = false := by rw [beq_eq_false_iff_ne]; omega
      have c2 : (o.k == 13) = false := by rw [beq_eq_false_iff_ne]; omega
      have c3 : (o.k == 1) = false := by rw [beq_eq_false_iff_ne]; omega
      have c4 : (o.k == 5) = false := by rw [beq_eq_false_iff_ne]; omega
      have c5 : (o.k == 3) = false := by rw [beq_eq_false_iff_ne]; omega
      have c6 : (o.k == 12) = false := by rw [beq_eq_false_iff_ne]; omega
      have l1 : kw.length + 1 ≤ 9223372036854775807 := by omega
      have l2 : kw.length + 1 + o.a.length ≤ 9223372036854775807 := by omega
      have l3 : kw.length + (o.a.length + 1) ≤ 9223372036854775807 := by omega
      cases p1 : plainT o.a <;> simp [-rIaddr, hW, hI, tailW, i2, p1, g1, g2, c1, c2, c3, c4, c5, c6, l1, l2, l3, Sop.ok, Sop.word]

end Go.Proofs.YtpmpofcokkgfdaaGreatDoor.Ev

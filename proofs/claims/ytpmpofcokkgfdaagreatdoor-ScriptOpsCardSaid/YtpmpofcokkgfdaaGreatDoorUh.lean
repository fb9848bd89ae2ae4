/- script's word of a field, and Text. -/
import Derived.Test.YtpmpofcokkgfdaaGreatDoorUg
namespace Go.Proofs.YtpmpofcokkgfdaaGreatDoor.Ev
open Go

def Sop.cells (o : Sop) : List V := [.int .i64 o.k, .str o.a, .str o.b, .int .i64 o.n, .list 1 (ints o.l) false, .list 1 (ints o.m) false]
def Sop.v (o : Sop) : V := .agg o.cells
/-- An op that a machine can hold, and whose texts and lists are not too long. -/
structure Sop.Sh (o : Sop) : Prop where
  a : o.a.length ≤ 100000
  b : o.b.length ≤ 100000
  n : -9223372036854775808 ≤ o.n ∧ o.n ≤ 9223372036854775807
  l : ∀ n ∈ o.l, -9223372036854775808 ≤ n ∧ n ≤ 9223372036854775807
  m : ∀ n ∈ o.m, -9223372036854775808 ≤ n ∧ n ≤ 9223372036854775807
  ll : o.l.length ≤ 100000
  ml : o.m.length ≤ 100000
/-- The word as it is told. -/
def Sop.wordX (o : Sop) (f : UInt8) : List UInt8 := if f = 104 then o.a else if f = 97 then o.a else if f = 98 then o.b else if f = 110 then Lib.itoa o.n else if f = 108 then (if numsOk o.l then numsT o.l else []) else (if numsOk o.m then numsT o.m else [])
theorem Sop.wordX_ok {o : Sop} {f : UInt8} (h : o.ok f = true) : o.wordX f = o.word f := by
  unfold Sop.ok at h
  unfold Sop.wordX Sop.word
  by_cases h1 : f = 104
  · simp only [if_pos h1]
  by_cases h2 : f = 97
  · simp only [if_neg h1, if_pos h2]
  by_cases h3 : f = 98
  · simp only [if_neg h1, if_neg h2, if_pos h3]
  by_cases h4 : f = 110
  · simp only [if_neg h1, if_neg h2, if_neg h3, if_pos h4]
  by_cases h5 : f = 108
  · simp only [if_neg h1, if_neg h2, if_neg h3, if_neg h4, if_pos h5] at h ⊢
    rw [if_pos h]
  · simp only [if_neg h1, if_neg h2, if_neg h3, if_neg h4, if_neg h5] at h ⊢
    rw [if_pos h]
theorem Sop.wordX_len {o : Sop} (ho : o.Sh) (f : UInt8) : (o.wordX f).length ≤ 300000000 := by
  have e1 := ho.a
  have e2 := ho.b
  have e3 := itoa_len o.n ho.n
  have e4 := numsT_len o.l ho.l
  have e5 := numsT_len o.m ho.m
  have e6 := ho.ll
  have e7 := ho.ml
  unfold Sop.wordX
  repeat' split
  all_goals first | omega | (simp; done)

theorem ev_sword (o : Sop) (ho : o.Sh) (f : UInt8) : ev tab prim 24 [o.v, .int .i32 f.toNat] [[], []] = some (.tup [.str (o.wordX f), .bool (o.ok f)], [[], []]) := by
  have key : ∀ c : UInt8, ((f.toNat : Int) == (c.toNat : Int)) = decide (f = c) := fun c => by
    rw [Bool.eq_iff_iff, beq_iff_eq, decide_eq_true_iff]
    exact ⟨fun h => UInt8.toNat_inj.1 (by omega), fun h => by rw [h]⟩
  have k1 : ((f.toNat : Int) == 104) = decide (f = 104) := key 104
  have k2 : ((f.toNat : Int) == 97) = decide (f = 97) := key 97
  have k3 : ((f.toNat : Int) == 98) = decide (f = 98) := key 98
  have k4 : ((f.toNat : Int) == 110) = decide (f = 110) := key 110
  have k5 : ((f.toNat : Int) == 108) = decide (f = 108) := key 108
  clear key
  have i1 := ev_shex o.a (by have := ho.a; omega)
  have i2 := ev_splain o.a (by have := ho.a; omega)
  have i3 := ev_splain o.b (by have := ho.b; omega)
  have i4 := ev_Itoa o.n ho.n [[], []]
  have i5 := ev_slist o.l ho.l ho.ll
  have i6 := ev_slist o.m ho.m ho.ml
  unfold Sop.wordX Sop.ok Sop.v Sop.cells
  generalize (f.toNat : Int) = z at *
  rw [ev_fn' tab prim (f := 24) rfl _ _ rfl]
  by_cases h1 : f = 104
  · rw [decide_eq_true h1] at k1
    simp [h1, k1, i1]
  rw [decide_eq_false h1] at k1
  by_cases h2 : f = 97
  · rw [decide_eq_true h2] at k2
    simp [h2, k1, k2, i2]
  rw [decide_eq_false h2] at k2
  by_cases h3 : f = 98
  · rw [decide_eq_true h3] at k3
    simp [h3, k1, k2, k3, i3]
  rw [decide_eq_false h3] at k3
  by_cases h4 : f = 110
  · rw [decide_eq_true h4] at k4
    by_cases g1 : 0 ≤ o.n
    · by_cases g2 : o.n ≤ 1000000
      · simp [h4, k1, k2, k3, k4, i4, g1, g2]
      · simp [h4, k1, k2, k3, k4, i4, g1, g2]
    · simp [h4, k1, k2, k3, k4, i4, g1]
  rw [decide_eq_false h4] at k4
  by_cases h5 : f = 108
  · rw [decide_eq_true h5] at k5
    simp [h5, k1, k2, k3, k4, k5, i5]
  rw [decide_eq_false h5] at k5
  simp [h1, h2, h3, h4, h5, k1, k2, k3, k4, k5, i6]

/-! ### Text -/
def txSt (o : Sop) (fs acc : List UInt8) (i : Nat) : St := { env := [(1, .cptr o.cells), (3, .str acc), (26, .iref 0)], mem := [[], [(0, [.siter fs i])], []] }
def tailW (o : Sop) (fs : List UInt8) : List UInt8 := (fs.map fun f => 32 :: o.word f).flatten

theorem tx_loop (o : Sop) (ho : o.Sh) (fs : List UInt8) (ha : ∀ f ∈ fs, f.toNat < 128) (hf : fs.length ≤ 10) : ∀ (n i : Nat) (acc : List UInt8), fs.length - i = n → i ≤ fs.length → acc.length ≤ 1000 + i * 300000001 →
    ∃ p, cv tab prim (.loop L8_0) (txSt o fs acc i) = if (fs.drop i).all o.ok = true then some (.exit 0, { env := [(3, .str (acc ++ tailW o (fs.drop i)))], mem := [[], [(0, [.siter fs p])], []] }) else some (.goto 0, { env := [], mem := [[], [(0, [.siter fs p])], []] }) := by
  intro n
  induction n with
  | zero =>
    intro i acc hn hi hacc
    obtain rfl : i = fs.length := by omega
    refine ⟨fs.length, ?_⟩
    rw [List.drop_length, if_pos (show ([] : List UInt8).all o.ok = true from rfl), cv_loop']
    simp [txSt, L8_0, tailW]
  | succ n ih =>
    intro i acc hn hi hacc
    have hlt : i < fs.length := by omega
    have hdi : fs.drop i = fs[i] :: fs.drop (i + 1) := List.drop_eq_getElem_cons hlt
    have hgd : fs.getD i 0 = fs[i] := by simp [List.getD_eq_getElem?_getD, hlt]
    have hdec := dec_byte fs i (by rw [hgd]; exact ha _ (List.getElem_mem hlt))
    rw [hgd] at hdec
    have hw := ev_sword o ho fs[i]
    have hl := Sop.wordX_len ho fs[i]
    have hx := Sop.wordX_ok (o := o) (f := fs[i])
    generalize fs[i] = f at *
    unfold Sop.v at hw
    rw [hdi, List.all_cons]
    cases hok : o.ok f with
    | false =>
      rw [hok] at hw
      refine ⟨i + 1, ?_⟩
      rw [Bool.false_and, if_neg (by decide)]
      generalize o.wordX f = w at *
      have hstep : cv tab prim L8_0 (txSt o fs acc i) = some (.goto 0, { env := [], mem := [[], [(0, [.siter fs (i + 1)])], []] }) := by
        unfold txSt
        unfold Sop.cells at hw ⊢
        simp [L8_0, hlt, hdec, hw]
      rw [cv_loop', hstep]
      simp
    | true =>
      rw [hok] at hw
      have hx' := hx hok
      obtain ⟨M, hM⟩ := ih (i + 1) (acc ++ 32 :: o.wordX f) (by omega) (by omega) (by simp; omega)
      refine ⟨M, ?_⟩
      have hstep : cv tab prim L8_0 (txSt o fs acc i) = some (.normal, txSt o fs (acc ++ 32 :: o.wordX f) (i + 1)) := by
        generalize o.wordX f = w at *
        have l1 : 1 + w.length ≤ 9223372036854775807 := by omega
        have l2 : acc.length + (1 + w.length) ≤ 9223372036854775807 := by omega
        have l3 : w.length + 1 ≤ 9223372036854775807 := by omega
        have l4 : acc.length + (w.length + 1) ≤ 9223372036854775807 := by omega
        unfold txSt
        unfold Sop.cells at hw ⊢
        simp [L8_0, hlt, hdec, hw, l1, l2, l3, l4]
      rw [cv_loop', hstep, roundK_n, hM, Bool.true_and]
      have : tailW o (f :: fs.drop (i + 1)) = 32 :: o.word f ++ tailW o (fs.drop (i + 1)) := by simp [tailW]
      rw [this, hx']
      simp

theorem aidx_table : (List.range 16).map (fun n : Nat => rAidx 16 2 true [.agg tableV, .int .i64 (n : Int)]) = (List.range 16).map fun n : Nat => some (V.agg [.str (kword (n : Int)), .str (kfields (n : Int))]) := by kernel_rfl
theorem aidx_0 (a b : List UInt8) : rAidx 2 1 false [.agg [.str a, .str b], .int .i64 0] = some (.str a) := rfl
theorem aidx_1 (a b : List UInt8) : rAidx 2 1 false [.agg [.str a, .str b], .int .i64 1] = some (.str b) := rfl
theorem tab_ascii : (List.range 16).map (fun n : Nat => ((kfields (n : Int)).all fun f => decide (f.toNat < 128)) && decide ((kfields (n : Int)).length ≤ 10) && decide ((kword (n : Int)).length ≤ 10)) = (List.range 16).map fun _ : Nat => true := by decide

theorem join_tail (w : List UInt8) (o : Sop) (fs : List UInt8) : Lib.join (w :: fs.map o.word) [32] = w ++ tailW o fs := by
  rw [Lib.join_cons]
  congr 1
  unfold Lib.joinTail tailW
  rw [List.map_map]
  rfl

theorem findKText : findL S8_0 0 = some (.seq .skip K8_0) := by rfl
theorem text_bad (M : Mem) : cj tab prim S8_0 (some (.goto 0, { env := [], mem := [] :: M })) = some (.ret, { env := [(2, .str [])], mem := [] :: M }) := by
  rw [cj_g tab prim S8_0 _ 0 findKText, cv_seq', cv_skip, seqK_n]
  simp [K8_0]

theorem ev_sText (o : Sop) (ho : o.Sh) : ∃ M, ev tab prim 8 [o.v] [[], []] = some (.str o.line, M) := by
  unfold Sop.line Sop.lineOk
  cases hk : kindR o.k with
  | false =>
    refine ⟨[[], []], ?_⟩
    rw [Bool.false_and, if_neg (by decide)]
    have h2 := text_bad [[], []]
    have h1 : cv tab prim S8_0 { env := [(1, .cptr o.cells)], mem := [[], [], []] } = some (.goto 0, { env := [], mem := [[], [], []] }) := by
      unfold Sop.cells
      unfold kindR at hk
      by_cases h1 : o.k < 1
      · simp [S8_0, h1]
      · have h2 : 15 < o.k := by
          by_cases h3 : o.k ≤ 15
          · have h4 : 1 ≤ o.k := by omega
            simp [h3, h4] at hk
          · omega
        simp [S8_0, h1, h2]
    unfold Sop.v
    rw [ev_fn' tab prim (f := 8) rfl _ _ rfl]
    unfold Sop.cells at *
    simp [h1, h2]
  | true =>
    obtain ⟨n, hn, h1, h2⟩ := kindR_nat hk
    have hA := of_map' aidx_table h2
    have hT := of_map' tab_ascii h2
    simp only [Bool.and_eq_true, decide_eq_true_eq] at hT
    obtain ⟨⟨hT1, hT2⟩, hT3⟩ := hT
    obtain ⟨p, hL⟩ := tx_loop o ho (kfields o.k) (fun f hf => by rw [hn] at hf; exact of_decide_eq_true (List.all_eq_true.1 hT1 f hf)) (by rw [hn]; exact hT2) (kfields o.k).length 0 (kword o.k) rfl (Nat.zero_le _) (by rw [hn]; omega)
    rw [List.drop_zero] at hL
    have hw := ev_swords
    rw [← hn] at hA
    have g1 : ¬ o.k < 1 := by omega
    have g2 : ¬ 15 < o.k := by omega
    refine ⟨[[(0, [.siter (kfields o.k) p])], []], ?_⟩
    unfold Sop.words
    rw [join_tail, Bool.true_and]
    have hbad := text_bad [[(0, [.siter (kfields o.k) p])], []]
    have hbody : cv tab prim S8_0 { env := [(1, .cptr o.cells)], mem := [[], [], []] } = if (kfields o.k).all o.ok = true then some (.ret, { env := [(2, .str (kword o.k ++ tailW o (kfields o.k)))], mem := [[], [(0, [.siter (kfields o.k) p])], []] }) else some (.goto 0, { env := [], mem := [[], [(0, [.siter (kfields o.k) p])], []] }) := by
      unfold txSt Sop.cells at hL
      unfold Sop.cells
      generalize kword o.k = kw at *
      generalize kfields o.k = fs at *
      generalize tailW o fs = tw at *
      generalize tableV = tv at *
      by_cases ho2 : fs.all o.ok = true
      · rw [if_pos ho2] at hL
        rw [if_pos ho2]
        simp [-rAidx, S8_0, g1, g2, hw, hA, aidx_0, aidx_1, hL]
      · rw [if_neg ho2] at hL
        rw [if_neg ho2]
        simp [-rAidx, S8_0, g1, g2, hw, hA, aidx_0, aidx_1, hL]
    unfold Sop.v
    generalize kword o.k ++ tailW o (kfields o.k) = tx at *
    generalize kfields o.k = fs at *
    rw [ev_fn' tab prim (f := 8) rfl _ _ rfl]
    unfold Sop.cells at *
    by_cases ho2 : fs.all o.ok = true
    · rw [if_pos ho2] at hbody
      rw [if_pos ho2]
      simp [hbody]
    · rw [if_neg ho2] at hbody
      rw [if_neg ho2]
      simp [hbody, hbad]

end Go.Proofs.YtpmpofcokkgfdaaGreatDoor.Ev

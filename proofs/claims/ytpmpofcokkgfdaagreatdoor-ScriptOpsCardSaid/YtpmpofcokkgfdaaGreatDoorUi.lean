/- The reference's words, plain, hexes, nums, TextOp. -/
import Derived.Test.YtpmpofcokkgfdaaGreatDoorUh
namespace Go.Proofs.YtpmpofcokkgfdaaGreatDoor.Ev
open Go

def wordsV : List V := kwords.map fun p => V.str p.1
theorem ev_rwords : ev tab prim 21 [] [[], []] = some (.list 1 wordsV true, [[], []]) := ev_of_fuel 30 (by kernel_rfl)
theorem iaddr_table : (List.range 16).map (fun n : Nat => rIaddr 1 [.list 1 wordsV false, .int .i64 (n : Int)]) = (List.range 16).map fun n : Nat => some (V.cptr [.str (kword (n : Int))]) := by kernel_rfl

theorem ev_rplain (s : List UInt8) (hl : s.length ≤ 1000000) : ev tab prim 26 [.str s] [[], []] = some (.bool (plainT s), [[], []]) := by
  have hL := loop_find (b := L26_0) (fun i => { env := [(0, .str s), (3, .int .i64 i)], mem := [[], [], []] }) s.length (fun i => !isSep (s.getD i 0)) (.exit 0, { env := [(0, .str s)], mem := [[], [], []] }) (.ret, { env := [(2, .bool false)], mem := [[], [], []] })
    (fun i hi h => by
      have hw : IntKind.i64.wrap ((i : Int) + 1) = ((i + 1 : Nat) : Int) := by rw [wrap_small] <;> omega
      have hgd : s.getD i 0 = s[i] := by simp [List.getD_eq_getElem?_getD, hi]
      rw [hgd] at h
      have h' : isSep s[i] = false := by simpa using h
      unfold isSep at h'
      rw [Bool.or_eq_false_iff, beq_eq_false_iff_ne, beq_eq_false_iff_ne] at h'
      have e1 : ((s[i].toNat : Int) == 32) = false := by
        rw [beq_eq_false_iff_ne]; intro h2; exact h'.1 (UInt8.toNat_inj.1 (by show s[i].toNat = 32; omega))
      have e2 : ((s[i].toNat : Int) == 10) = false := by
        rw [beq_eq_false_iff_ne]; intro h2; exact h'.2 (UInt8.toNat_inj.1 (by show s[i].toNat = 10; omega))
      simp [L26_0, hi, idxOk, e1, e2, hw])
    (fun i hi h => by
      have hgd : s.getD i 0 = s[i] := by simp [List.getD_eq_getElem?_getD, hi]
      rw [hgd] at h
      have h' : isSep s[i] = true := by simpa using h
      unfold isSep at h'
      by_cases h2 : s[i] = 32
      · have e1 : ((s[i].toNat : Int) == 32) = true := by rw [h2]; rfl
        simp [L26_0, hi, idxOk, e1]
      · have h3 : s[i] = 10 := by simpa [h2] using h'
        have e1 : ((s[i].toNat : Int) == 32) = false := by rw [h3]; rfl
        have e2 : ((s[i].toNat : Int) == 10) = true := by rw [h3]; rfl
        simp [L26_0, hi, idxOk, e1, e2])
    (by simp [L26_0]) (by simp) (by simp)
  have hany : (∀ i, i < s.length → (!isSep (s.getD i 0)) = true) ↔ s.any isSep = false := by
    rw [List.any_eq_false]
    refine ⟨fun h b hb => ?_, fun h i hi => ?_⟩
    · obtain ⟨i, hi, rfl⟩ := List.mem_iff_getElem.1 hb
      have := h i hi
      simp only [List.getD_eq_getElem?_getD, List.getElem?_eq_getElem hi, Option.getD_some] at this
      simpa using this
    · have := h s[i] (List.getElem_mem hi)
      simp only [List.getD_eq_getElem?_getD, List.getElem?_eq_getElem hi, Option.getD_some]
      simpa using this
  replace hL := hL
  simp only [Int.cast_ofNat_Int] at hL
  rw [ev_fn' tab prim (f := 26) rfl _ _ rfl]
  unfold plainT
  by_cases ha : s.any isSep = false
  · rw [if_pos (hany.2 ha)] at hL
    cases hs : s.isEmpty <;> simp [hL, ha, hs]
  · rw [if_neg (fun h => ha (hany.1 h))] at hL
    have ha' : s.any isSep = true := by simpa using ha
    simp [hL, ha']


theorem hex_not (b : UInt8) : hexB b = (!((decide (b.toNat < 48) || decide (57 < b.toNat)) && (decide (b.toNat < 97) || decide (102 < b.toNat)))) := by
  unfold hexB
  by_cases h1 : 48 ≤ b.toNat <;> by_cases h2 : b.toNat ≤ 57 <;> by_cases h3 : 97 ≤ b.toNat <;> by_cases h4 : b.toNat ≤ 102 <;> simp [h1, h2, h3, h4] <;> omega

theorem ev_rhexes (s : List UInt8) (hl : s.length ≤ 1000000) : ev tab prim 25 [.str s] [[], []] = some (.bool (hexT s), [[], []]) := by
  have hL := loop_find (b := L25_0) (fun i => { env := [(0, .str s), (3, .int .i64 i)], mem := [[], [], []] }) s.length (fun i => hexB (s.getD i 0)) (.exit 0, { env := [(0, .str s)], mem := [[], [], []] }) (.ret, { env := [(2, .bool (s == [45]))], mem := [[], [], []] })
    (fun i hi h => by
      have hw : IntKind.i64.wrap ((i : Int) + 1) = ((i + 1 : Nat) : Int) := by rw [wrap_small] <;> omega
      have hgd : s.getD i 0 = s[i] := by simp [List.getD_eq_getElem?_getD, hi]
      rw [hgd] at h
      unfold hexB at h
      simp only [Bool.or_eq_true, Bool.and_eq_true, decide_eq_true_eq] at h
      rcases h with ⟨h1, h2⟩ | ⟨h1, h2⟩
      · have e1 : ¬ (s[i].toNat : Int) < 48 := by omega
        have e2 : ¬ (57 : Int) < (s[i].toNat : Int) := by omega
        simp [L25_0, hi, idxOk, e1, e2, hw]
      · have e1 : ¬ (s[i].toNat : Int) < 48 := by omega
        have e2 : (57 : Int) < (s[i].toNat : Int) := by omega
        have e3 : ¬ (s[i].toNat : Int) < 97 := by omega
        have e4 : ¬ (102 : Int) < (s[i].toNat : Int) := by omega
        simp [L25_0, hi, idxOk, e1, e2, e3, e4, hw])
    (fun i hi h => by
      have hgd : s.getD i 0 = s[i] := by simp [List.getD_eq_getElem?_getD, hi]
      rw [hgd, hex_not] at h
      simp only [Bool.not_eq_false', Bool.or_eq_true, Bool.and_eq_true, decide_eq_true_eq] at h
      obtain ⟨h1, h2⟩ := h
      by_cases e1 : (s[i].toNat : Int) < 48
      · have e3 : (s[i].toNat : Int) < 97 := by omega
        simp [L25_0, hi, idxOk, e1, e3]
      · have e2 : (57 : Int) < (s[i].toNat : Int) := by omega
        by_cases e3 : (s[i].toNat : Int) < 97
        · simp [L25_0, hi, idxOk, e1, e2, e3]
        · have e4 : (102 : Int) < (s[i].toNat : Int) := by omega
          simp [L25_0, hi, idxOk, e1, e2, e3, e4])
    (by simp [L25_0]) (by simp) (by simp)
  have hall : (∀ i, i < s.length → hexB (s.getD i 0) = true) ↔ s.all hexB = true := by
    rw [List.all_eq_true]
    refine ⟨fun h b hb => ?_, fun h i hi => ?_⟩
    · obtain ⟨i, hi, rfl⟩ := List.mem_iff_getElem.1 hb
      have := h i hi
      simpa [List.getD_eq_getElem?_getD, hi] using this
    · have := h s[i] (List.getElem_mem hi)
      simpa [List.getD_eq_getElem?_getD, hi] using this
  have hbne : ∀ a b : List UInt8, (a != b) = !(a == b) := fun _ _ => rfl
  have hr : (s.length : Int).tmod 2 = ((s.length % 2 : Nat) : Int) := by rw [Int.tmod_eq_emod_of_nonneg (by omega)]; omega
  simp only [Int.cast_ofNat_Int] at hL
  rw [ev_fn' tab prim (f := 25) rfl _ _ rfl]
  unfold hexT
  by_cases ha : s.all hexB = true
  · rw [if_pos (hall.2 ha)] at hL
    have h45 : (s == [45]) = false := by
      rw [beq_eq_false_iff_ne]
      rintro rfl
      exact absurd ha (by decide)
    rw [ha, h45]
    clear hall
    cases h2 : (s == []) with
    | true =>
      have : s = [] := by simpa using h2
      subst this
      simp [hL, hbne]
    | false =>
      have h3 : s.isEmpty = false := by simpa using h2
      by_cases h4 : s.length % 2 = 0
      · simp [hL, hbne, h2, h3, hr, h4]
      · have h6 : (((s.length % 2 : Nat) : Int) == 0) = false := by rw [beq_eq_false_iff_ne]; omega
        generalize ((s.length % 2 : Nat) : Int) = q at *
        simp [hL, hbne, h2, h3, hr, h4, h6]
  · rw [if_neg (fun h => ha (hall.1 h))] at hL
    have ha' : s.all hexB = false := by simpa using ha
    rw [ha']
    clear hall
    simp [hL]

/-! ### nums -/
def accF (l : List Int) : List UInt8 := if l = [] then [] else numsT l
theorem accF_len (l : List Int) (h : ∀ n ∈ l, -9223372036854775808 ≤ n ∧ n ≤ 9223372036854775807) : (accF l).length ≤ 1 + l.length * 2001 := by
  unfold accF
  split
  · simp
  · exact numsT_len l h
theorem accF_snoc (l : List Int) (n : Int) : accF (l ++ [n]) = (if l = [] then [] else accF l ++ [44]) ++ Lib.itoa n := by
  unfold accF
  rw [if_neg (by simp)]
  by_cases h : l = []
  · subst h; rw [if_pos rfl]; exact numsT_one n
  · rw [if_neg h, if_neg h, numsT_snoc l n h]; simp
theorem accF_ne {l : List Int} (h : l ≠ []) : accF l ≠ [] := by
  unfold accF
  rw [if_neg h]
  cases l with
  | nil => exact absurd rfl h
  | cons m r =>
    rw [numsT_cons, joinTail_app]
    intro h2
    exact itoa_ne m (List.append_eq_nil_iff.1 h2).1
def nmSt (l : List Int) (i : Nat) : St := { env := [(0, .list 1 (ints l) false), (4, .str (accF (l.take i))), (5, .int .i64 i)], mem := [[], [], []] }
theorem ev_rnums (l : List Int) (hl : ∀ n ∈ l, -9223372036854775808 ≤ n ∧ n ≤ 9223372036854775807) (h : l.length ≤ 100000) :
    ev tab prim 27 [.list 1 (ints l) false] [[], []] = some (.tup [.str (if numsOk l then numsT l else []), .bool (numsOk l)], [[], []]) := by
  have hL := loop_find (b := L27_0) (nmSt l) l.length (fun i => int32 (l.getD i 0)) (.exit 0, { env := [(4, .str (accF l))], mem := [[], [], []] })
    (.ret, { env := [(2, .str []), (3, .bool false)], mem := [[], [], []] })
    (fun i hi hp => by
      have hgd : l.getD i 0 = l[i] := by simp [List.getD_eq_getElem?_getD, hi]
      rw [hgd] at hp
      obtain ⟨p1, p2⟩ := int32_iff.1 hp
      have n1 : ¬ l[i] < -2147483648 := by omega
      have n2 : ¬ 2147483647 < l[i] := by omega
      have hi1 := ev_Decimal l[i] (hl _ (List.getElem_mem hi))
      have hil := itoa_len l[i] (hl _ (List.getElem_mem hi))
      have w1 : IntKind.i64.wrap ((i : Int) + 1) = ((i + 1 : Nat) : Int) := by rw [wrap_small] <;> omega
      have ht : l.take (i + 1) = l.take i ++ [l[i]] := by rw [List.take_succ_eq_append_getElem hi]
      have hlen := accF_len (l.take i) (fun n hn => hl n (List.mem_of_mem_take hn))
      have hm : (l.take i).length = i := by rw [List.length_take]; omega
      rw [hm] at hlen
      have g1 : (i : Int) < (l.length : Int) := by omega
      unfold nmSt
      rw [ht, accF_snoc]
      by_cases h0 : i = 0
      · subst h0
        have e0 : accF (l.take 0) = [] := rfl
        rw [e0]
        have l0 : (Lib.itoa l[0]).length ≤ 9223372036854775807 := by omega
        have w0 : IntKind.i64.wrap 1 = 1 := by decide
        simp [L27_0, ints, idxOk, hi, n1, n2, hi1, w0, g1, l0]
      · have h1 : l.take i ≠ [] := by intro h2; rw [h2] at hm; simp at hm; omega
        rw [if_neg h1]
        generalize accF (l.take i) = ac at *
        generalize Lib.itoa l[i] = it at *
        have l1 : ac.length + 1 ≤ 9223372036854775807 := by omega
        have l2 : ac.length + 1 + it.length ≤ 9223372036854775807 := by omega
        have l3 : ac.length + (1 + it.length) ≤ 9223372036854775807 := by omega
        have g2 : (0 : Int) < (i : Int) := by omega
        have g3 : 0 < i := by omega
        simp [L27_0, ints, idxOk, hi, n1, n2, hi1, w1, g1, g2, g3, l1, l2, l3])
    (fun i hi hp => by
      have hgd : l.getD i 0 = l[i] := by simp [List.getD_eq_getElem?_getD, hi]
      rw [hgd] at hp
      unfold int32 at hp
      have g1 : (i : Int) < (l.length : Int) := by omega
      unfold nmSt
      generalize accF (l.take i) = ac at *
      by_cases n1 : l[i] < -2147483648
      · simp [L27_0, ints, idxOk, hi, n1, g1]
      · have n2 : 2147483647 < l[i] := by
          by_cases h3 : l[i] ≤ 2147483647
          · have h4 : -2147483648 ≤ l[i] := by omega
            simp [h3, h4] at hp
          · omega
        simp [L27_0, ints, idxOk, hi, n1, n2, g1])
    (by unfold nmSt; simp [L27_0, ints]) (by simp) (by simp)
  have hall : (∀ i, i < l.length → int32 (l.getD i 0) = true) ↔ numsOk l = true := by
    unfold numsOk
    rw [List.all_eq_true]
    refine ⟨fun h n hn => ?_, fun h i hi => ?_⟩
    · obtain ⟨i, hi, rfl⟩ := List.mem_iff_getElem.1 hn
      have := h i hi
      simpa [List.getD_eq_getElem?_getD, hi] using this
    · have := h l[i] (List.getElem_mem hi)
      simpa [List.getD_eq_getElem?_getD, hi] using this
  unfold nmSt at hL
  have e0 : accF (l.take 0) = [] := rfl
  rw [e0] at hL
  simp only [Int.cast_ofNat_Int] at hL
  rw [ev_fn' tab prim (f := 27) rfl _ _ rfl]
  by_cases ho : numsOk l = true
  · rw [if_pos (hall.2 ho)] at hL
    rw [ho]
    clear hall
    by_cases h0 : l = []
    · subst h0
      have e1 : accF [] = [] := rfl
      rw [e1] at hL
      simp [ints] at hL
      simp [ints, hL, numsT]
    · have e1 : accF l = numsT l := by unfold accF; rw [if_neg h0]
      have e2 : (numsT l == []) = false := by rw [beq_eq_false_iff_ne, ← e1]; exact accF_ne h0
      rw [e1] at hL
      generalize numsT l = t at *
      simp [ints] at hL
      simp [ints, hL, e2]
  · rw [if_neg (fun h => ho (hall.1 h))] at hL
    have ho' : numsOk l = false := by simpa using ho
    rw [ho']
    clear hall
    simp [ints] at hL
    simp [ints, hL]

end Go.Proofs.YtpmpofcokkgfdaaGreatDoor.Ev

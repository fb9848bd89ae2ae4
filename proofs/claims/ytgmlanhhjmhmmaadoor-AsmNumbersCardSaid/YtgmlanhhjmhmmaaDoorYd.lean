/- The reference's Decimal, Word, plain, int32s and Line. -/
import Derived.Test.YtgmlanhhjmhmmaaDoorYc
namespace Go.Proofs.YtgmlanhhjmhmmaaDoor.Ev
open Go

theorem ev_int32s (n : Int) : ev tab prim 30 [.int .i64 n] [[], []] = some (.bool (int32 n), [[], []]) := by
  rw [ev_fn' tab prim (f := 30) rfl _ _ rfl]
  unfold int32
  by_cases h1 : -2147483648 ≤ n <;> by_cases h2 : n ≤ 2147483647
  · have : n < 2147483648 := by omega
    simp [h1, h2, this]
  · have : ¬ n < 2147483648 := by omega
    simp [h1, h2, this]
  · simp [h1]
  · simp [h1]

theorem ev_plain (s : List UInt8) (hl : s.length ≤ 1000000) : ev tab prim 31 [.str s] [[], []] = some (.bool (plainT s), [[], []]) := by
  have hL := loop_find (b := L31_0) (fun i => { env := [(0, .str s), (3, .int .i64 i)], mem := [[], [], []] }) s.length (fun i => !isSep (s.getD i 0)) (.exit 0, { env := [(0, .str s)], mem := [[], [], []] }) (.ret, { env := [(2, .bool false)], mem := [[], [], []] })
    (fun i hi h => by
      have hw : IntKind.i64.wrap ((i : Int) + 1) = ((i + 1 : Nat) : Int) := by rw [wrap_small] <;> omega
      have hgd : s.getD i 0 = s[i] := by simp [List.getD_eq_getElem?_getD, hi]
      rw [hgd] at h
      have h' : isSep s[i] = false := by simpa using h
      unfold isSep at h'
      rw [Bool.or_eq_false_iff, beq_eq_false_iff_ne, beq_eq_false_iff_ne] at h'
      have e1 : ((s[i].toNat : Int) == 32) = false := by
        rw [beq_eq_false_iff_ne]; intro h2; exact h'.1 (UInt8.toNat_inj.1 (by show s[i].toNat = 32; omega))
      have e2 : ((s[i].toNat : Int) == 10) = false := by
        rw [beq_eq_false_iff_ne]; intro h2; exact h'.2 (UInt8.toNat_inj.1 (by show s[i].toNat = 10; omega))
      simp [L31_0, hi, idxOk, e1, e2, hw])
    (fun i hi h => by
      have hgd : s.getD i 0 = s[i] := by simp [List.getD_eq_getElem?_getD, hi]
      rw [hgd] at h
      have h' : isSep s[i] = true := by simpa using h
      unfold isSep at h'
      by_cases h2 : s[i] = 32
      · have e1 : ((s[i].toNat : Int) == 32) = true := by rw [h2]; rfl
        simp [L31_0, hi, idxOk, e1]
      · have h3 : s[i] = 10 := by simpa [h2] using h'
        have e1 : ((s[i].toNat : Int) == 32) = false := by rw [h3]; rfl
        have e2 : ((s[i].toNat : Int) == 10) = true := by rw [h3]; rfl
        simp [L31_0, hi, idxOk, e1, e2])
    (by simp [L31_0]) (by simp) (by simp)
  have hany : (∀ i, i < s.length → (!isSep (s.getD i 0)) = true) ↔ s.any isSep = false := by
    rw [List.any_eq_false]
    refine ⟨fun h b hb => ?_, fun h i hi => ?_⟩
    · obtain ⟨i, hi, rfl⟩ := List.mem_iff_getElem.1 hb
      have := h i hi
      simp only [List.getD_eq_getElem?_getD, List.getElem?_eq_getElem hi, Option.getD_some] at this
      simpa using this
    · have := h s[i] (List.getElem_mem hi)
      simp only [List.getD_eq_getElem?_getD, List.getElem?_eq_getElem hi, Option.getD_some]
      simpa using this
  replace hL := hL
  simp only [Int.cast_ofNat_Int] at hL
  rw [ev_fn' tab prim (f := 31) rfl _ _ rfl]
  unfold plainT
  by_cases ha : s.any isSep = false
  · rw [if_pos (hany.2 ha)] at hL
    cases hs : s.isEmpty <;> simp [hL, ha, hs]
  · rw [if_neg (fun h => ha (hany.1 h))] at hL
    have ha' : s.any isSep = true := by simpa using ha
    simp [hL, ha']

theorem refWord_in : (List.range 39).map (fun n : Nat => evF tab prim 30 23 [.int .i64 (n : Int)] [[], []]) = (List.range 39).map fun n : Nat => some (.str (wordOf (n : Int)), [[], []]) := by kernel_rfl
theorem ev_refWord (a : Int) : ev tab prim 23 [.int .i64 a] [[], []] = some (.str (wordOf a), [[], []]) := by
  cases h : inR a with
  | true =>
    obtain ⟨n, rfl, hn⟩ := inR_nat h
    exact ev_of_fuel 30 (of_map refWord_in hn)
  | false =>
    have h2 : wordOf a = [] := by simp [wordOf, rowOf_out h, zRow]
    rw [h2, ev_fn' tab prim (f := 23) rfl _ _ rfl]
    by_cases h1 : a < 1
    · simp [h1]
    · have h3 : 38 < a := by have := inR_false h; omega
      have h4 : 39 ≤ a := by omega
      simp [h1, h3, h4]

end Go.Proofs.YtgmlanhhjmhmmaaDoor.Ev

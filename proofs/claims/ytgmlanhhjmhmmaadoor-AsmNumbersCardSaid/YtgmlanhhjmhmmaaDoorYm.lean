/- The law AsmNumbers: each number is written in one form, and read in none else. -/
import Derived.Test.YtgmlanhhjmhmmaaDoorYl
namespace Go.Proofs.YtgmlanhhjmhmmaaDoor.Ev
open Go

def roundA (k n : Int) : Int := if k.tmod n < 0 then k.tmod n + n else k.tmod n
theorem roundA_in (k n : Int) (hn : 0 < n) : 0 ≤ roundA k n ∧ roundA k n < n := by
  have h1 := Int.tmod_lt_of_pos k hn
  have h2 : -n < k.tmod n := by
    have := Int.tmod_lt_of_pos (-k) hn
    rw [Int.neg_tmod] at this; omega
  unfold roundA
  split <;> omega
theorem ev_RoundA (k n : Int) (hn : 0 < n) (hb : n ≤ 1000) : ev tab prim 15 [.int .i64 k, .int .i64 n] [[], []] = some (.int .i64 (roundA k n), [[], []]) := by
  rw [ev_fn' tab prim (f := 15) rfl _ _ rfl]
  have h0 : ¬ n = 0 := by omega
  have hr := roundA_in k n hn
  unfold roundA at hr ⊢
  by_cases h : k.tmod n < 0
  · rw [if_pos h] at hr ⊢
    have hw : IntKind.i64.wrap (k.tmod n + n) = k.tmod n + n := wrap_small (by omega) (by omega)
    simp [h0, h, hw]
  · rw [if_neg h] at hr ⊢
    simp [h0, h]

/-- One word behind iconst that is no number's. -/
theorem icon_bad (z : List UInt8) (hz : (32 : UInt8) ∉ z) (h : ∀ m, int32 m = true → Lib.itoa m ≠ z) : asmP ([105, 99, 111, 110, 115, 116, 32] ++ z) = (zI, 7) := by
  refine asmP_bad fun y hy hp he => ?_
  have hc := cut_of_line hy he
  rw [show [105, 99, 111, 110, 115, 116, 32] ++ z = [105, 99, 111, 110, 115, 116] ++ 32 :: z by simp, cutV_app _ _ (by decide), cutV_plain z hz] at hc
  have hw : wordOf y.o = [105, 99, 111, 110, 115, 116] := by
    have := congrArg (fun l => l.head?) hc
    simp only [Ins.words, List.head?_cons] at this
    exact (Option.some.inj this).symm
  obtain ⟨hy2, h32⟩ := icon_of hy hp hw
  rw [hy2, icon_words] at hc
  injection hc with _ hc
  injection hc with hc _
  exact h _ h32 hc.symm
/-- More or fewer words behind iconst than one. -/
theorem icon_many (s : List UInt8) (ws : List (List UInt8)) (hs : cutV s = [105, 99, 111, 110, 115, 116] :: ws) (hl : ws.length ≠ 1) : asmP s = (zI, 7) := by
  refine asmP_bad fun y hy hp he => ?_
  have hc := cut_of_line hy he
  rw [hs] at hc
  have hw : wordOf y.o = [105, 99, 111, 110, 115, 116] := by
    have := congrArg (fun l => l.head?) hc
    simp only [Ins.words, List.head?_cons] at this
    exact (Option.some.inj this).symm
  obtain ⟨hy2, h32⟩ := icon_of hy hp hw
  rw [hy2, icon_words] at hc
  injection hc with _ hc
  rw [hc] at hl
  exact hl rfl

def forms (d : List UInt8) : List (List UInt8) := [[105, 99, 111, 110, 115, 116, 32, 48] ++ d, [105, 99, 111, 110, 115, 116, 32, 43] ++ d, [105, 99, 111, 110, 115, 116, 32] ++ d ++ [46], [105, 99, 111, 110, 115, 116, 32, 32] ++ d, [73, 99, 111, 110, 115, 116, 32] ++ d, [105, 99, 111, 110, 115, 116, 32] ++ d ++ [32, 48], [105, 99, 111, 110, 115, 116, 32, 45, 45] ++ d, [105, 99, 111, 110, 115, 116]]

theorem forms_bad (n : Int) : ∀ s ∈ forms (Lib.itoa n), asmP s = (zI, 7) := by
  have hp := itoa_plain n
  have hd := itoa_ne n
  intro s hs
  simp only [forms, List.mem_cons, List.mem_nil_iff, or_false] at hs
  rcases hs with rfl | rfl | rfl | rfl | rfl | rfl | rfl | rfl
  · refine icon_bad (48 :: Lib.itoa n) (by simp [hp]) fun m hm he => hd (itoa_zero hm he)
  · refine icon_bad (43 :: Lib.itoa n) (by simp [hp]) fun m hm he => ?_
    rcases itoa_bytes m 43 (by rw [he]; simp) with h | h <;> exact absurd h (by decide)
  · rw [List.append_assoc]
    refine icon_bad (Lib.itoa n ++ [46]) (by simp [hp]) fun m hm he => ?_
    rcases itoa_bytes m 46 (by rw [he]; simp) with h | h <;> exact absurd h (by decide)
  · refine asmP_bad fun y hy hp' he => ?_
    have hc := cut_of_line hy he
    rw [show [105, 99, 111, 110, 115, 116, 32, 32] ++ Lib.itoa n = [105, 99, 111, 110, 115, 116] ++ 32 :: (([] : List UInt8) ++ 32 :: Lib.itoa n) by simp, cutV_app _ _ (by decide), cutV_app _ _ (by simp)] at hc
    exact (Ins.words_good hy [] (by rw [← hc]; simp)).1 rfl
  · refine asmP_bad fun y hy hp' he => ?_
    have hc := cut_of_line hy he
    rw [show [73, 99, 111, 110, 115, 116, 32] ++ Lib.itoa n = [73, 99, 111, 110, 115, 116] ++ 32 :: Lib.itoa n by simp, cutV_app _ _ (by decide)] at hc
    have hw : wordOf y.o = [73, 99, 111, 110, 115, 116] := by
      have := congrArg (fun l => l.head?) hc
      simp only [Ins.words, List.head?_cons] at this
      exact (Option.some.inj this).symm
    have h0 := (Ins.lineOk_iff.1 hy).1
    have h1 := opOfV_word h0
    rw [hw] at h1
    have h2 : opOfV [73, 99, 111, 110, 115, 116] = 0 := by decide
    rw [← h1, h2] at h0
    exact absurd h0 (by decide)
  · rw [List.append_assoc]
    refine icon_many _ [Lib.itoa n, [48]] ?_ (by simp)
    rw [show [105, 99, 111, 110, 115, 116, 32] ++ (Lib.itoa n ++ [32, 48]) = [105, 99, 111, 110, 115, 116] ++ 32 :: (Lib.itoa n ++ 32 :: [48]) by simp, cutV_app _ _ (by decide), cutV_app _ _ hp, cutV_plain [48] (by decide)]
  · refine icon_bad (45 :: 45 :: Lib.itoa n) (by simp [hp]) fun m hm he => ?_
    unfold Lib.itoa at he
    split at he
    · injection he with _ he
      have := digs_dig _ _ rfl 45 (by rw [he]; simp)
      exact absurd this (by decide)
    · have := digs_dig _ _ rfl 45 (by rw [he]; simp)
      exact absurd this (by decide)
  · exact icon_many _ [] (by decide) (by simp)

theorem icon_line_bad {n : Int} (h : int32 n = false) : (icon n).line = [] := by
  refine Ins.line_of_bad ?_
  cases h2 : (icon n).lineOk with
  | false => rfl
  | true =>
    have := (Ins.lineOk_iff.1 h2).2.1 row2.2.1
    have h3 : int32 n = true := this
    rw [h] at h3; cases h3

theorem icon_short {n : Int} (h : -9223372036854775808 ≤ n ∧ n ≤ 9223372036854775807) : (icon n).Short :=
  ⟨h, ⟨by show (-9223372036854775808 : Int) ≤ 0; decide, by show (0 : Int) ≤ 9223372036854775807; decide⟩, by simp [icon], by simp [icon], by simp [icon]⟩

set_option maxHeartbeats 4000000 in
theorem ev_lawNumbers (n how : Int) (hn : -9223372036854775808 ≤ n ∧ n ≤ 9223372036854775807) : ev tab prim 5 [.int .i64 n, .int .i64 how] [[], []] = some (.bool true, [[], []]) := by
  have hw := ev_awakeA
  have a1 := ev_Line (icon n) (icon_short hn)
  have hD := ev_Decimal n hn
  have hR := ev_RoundA how 8 (by omega) (by omega)
  have hr := roundA_in how 8 (by omega)
  cases h32 : int32 n with
  | false =>
    rw [icon_line_bad h32] at a1
    unfold Ins.v icon at a1
    have h3 : n < -2147483648 ∨ (¬ n < -2147483648 ∧ 2147483648 ≤ n) := by
      by_cases h : n < -2147483648
      · exact .inl h
      · refine .inr ⟨h, ?_⟩
        have : ¬ (-2147483648 ≤ n ∧ n ≤ 2147483647) := fun h2 => by rw [int32_iff.2 h2] at h32; cases h32
        omega
    rw [ev_fn' tab prim (f := 5) rfl _ _ rfl]
    rcases h3 with h3 | ⟨h3, h4⟩
    · simp [a1, h3, hw]
    · simp [a1, h3, h4, hw]
  | true =>
    obtain ⟨g1, g2⟩ := int32_iff.1 h32
    have g1' : ¬ n < -2147483648 := by omega
    have g2' : ¬ 2147483648 ≤ n := by omega
    have hl := itoa_len21 n hn
    have p0 := asmP_line (icon_ok h32) (icon_pure n)
    rw [icon_line h32] at a1 p0
    have e1 := ev_ParseLine ([105, 99, 111, 110, 115, 116, 32] ++ Lib.itoa n) (by simp; omega)
    rw [p0] at e1
    have hf := forms_bad n
    have hfl : ∀ s ∈ forms (Lib.itoa n), s.length ≤ 2000 := by
      intro s hs
      simp only [forms, List.mem_cons, List.mem_nil_iff, or_false] at hs
      rcases hs with rfl | rfl | rfl | rfl | rfl | rfl | rfl | rfl <;> simp <;> omega
    obtain ⟨k, hk⟩ : ∃ k : Nat, roundA how 8 = k := ⟨(roundA how 8).toNat, by omega⟩
    rw [hk] at hR hr
    have hk8 : k < 8 := by omega
    have hlen : (forms (Lib.itoa n)).length = 8 := rfl
    obtain ⟨z, hget⟩ : ∃ z, (forms (Lib.itoa n))[k]? = some z := by
      cases h : (forms (Lib.itoa n))[k]? with
      | some z => exact ⟨z, rfl⟩
      | none => rw [List.getElem?_eq_none_iff, hlen] at h; omega
    have hm := List.mem_of_getElem? hget
    have e2 := ev_ParseLine z (hfl _ hm)
    rw [hf _ hm] at e2
    have hgv : ((forms (Lib.itoa n)).map V.str)[k]? = some (.str z) := by rw [List.getElem?_map, hget]; rfl
    have hi : idxOk (k : Int) 8 = true := by simp [idxOk]; omega
    unfold forms at hgv
    have l1 : (Lib.itoa n).length + 40 ≤ 9223372036854775807 := by omega
    have l2 : (Lib.itoa n).length ≤ 100 := by omega
    clear hf hfl hget hm hlen p0 hl
    generalize Lib.itoa n = d at *
    unfold Ins.v icon at a1 e1
    unfold Ins.v zI at e2
    simp at hgv
    rw [ev_fn' tab prim (f := 5) rfl _ _ rfl]
    have q : ∀ j, j ≤ 20 → j + d.length ≤ 9223372036854775807 := fun j hj => by omega
    have m1 : 7 + d.length + 1 ≤ 9223372036854775807 := by omega
    have m2 : 7 + (d.length + 1) ≤ 9223372036854775807 := by omega
    have m3 : 7 + d.length + 2 ≤ 9223372036854775807 := by omega
    have m4 : 7 + (d.length + 2) ≤ 9223372036854775807 := by omega
    have m5 : d.length + 7 + 1 ≤ 9223372036854775807 := by omega
    have m6 : d.length + 7 + 2 ≤ 9223372036854775807 := by omega
    have m7 : d.length + 8 ≤ 9223372036854775807 := by omega
    have m8 : d.length + 9 ≤ 9223372036854775807 := by omega
    simp at e1 a1
    simp [a1, g1', g2', hD, e1, hR, hi, hgv, e2, hw, q 7 (by omega), q 8 (by omega), q 9 (by omega), m1, m2, m3, m4, m5, m6, m7, m8]

end Go.Proofs.YtgmlanhhjmhmmaaDoor.Ev

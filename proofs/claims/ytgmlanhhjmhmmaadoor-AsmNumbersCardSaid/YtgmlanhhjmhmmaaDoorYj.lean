/- Plain laws: a number is read as it was written; both readers read alike. -/
import Derived.Test.YtgmlanhhjmhmmaaDoorYi
namespace Go.Proofs.YtgmlanhhjmhmmaaDoor.Ev
open Go

/-! ### Digits -/
theorem dg_nat {k : Nat} (h : k < 10) : (UInt8.ofNat (48 + k)).toNat = 48 + k := by
  rw [UInt8.toNat_ofNat']; omega
theorem dg_dig {k : Nat} (h : k < 10) : isDig (UInt8.ofNat (48 + k)) = true := by
  unfold isDig
  rw [dg_nat h]
  simp; omega

theorem digs_dig : ∀ (n u : Nat), u = n → ∀ b ∈ Lib.decDigits u, isDig b = true := by
  intro n
  induction n using Nat.strongRecOn with
  | ind n ih =>
    intro u hu b hb
    subst hu
    by_cases h : u < 10
    · rw [dig_small u h] at hb
      obtain rfl := List.mem_singleton.1 hb
      exact dg_dig h
    · rw [dig_step u h] at hb
      rcases List.mem_append.1 hb with hb | hb
      · exact ih (u / 10) (by omega) (u / 10) rfl b hb
      · obtain rfl := List.mem_singleton.1 hb
        exact dg_dig (by omega)

theorem digs_ne (u : Nat) : Lib.decDigits u ≠ [] := by
  intro h
  have := Lib.decDigits_length u
  rw [h] at this
  have := Lib.nDigits_pos u
  simp at *
  omega

theorem parse_digs : ∀ (n u : Nat), u = n → u < 1000000000000000000 → ∀ r, Lib.parseUint10 0 (Lib.decDigits u ++ r) = Lib.parseUint10 u r := by
  intro n
  induction n using Nat.strongRecOn with
  | ind n ih =>
    intro u hu hl r
    subst hu
    have one : ∀ (a k : Nat) (r : List UInt8), k < 10 → a < 1000000000000000000 → Lib.parseUint10 a (UInt8.ofNat (48 + k) :: r) = Lib.parseUint10 (a * 10 + k) r := by
      intro a k r hk ha
      unfold Lib.parseUint10
      rw [dg_nat hk, if_pos (by omega), if_neg (by omega), if_neg (by omega), show 48 + k - 48 = k by omega]
      cases r <;> rfl
    by_cases h : u < 10
    · rw [dig_small u h, List.singleton_append, one 0 u r h (by omega)]
      rw [Nat.zero_mul, Nat.zero_add]
    · rw [dig_step u h, List.append_assoc, ih (u / 10) (by omega) (u / 10) rfl (by omega), List.singleton_append, one (u / 10) (u % 10) r (by omega) (by omega), show u / 10 * 10 + u % 10 = u by omega]

theorem digN_digs : ∀ (n u : Nat), u = n → ∀ r, digN 0 (Lib.decDigits u ++ r) = digN u r := by
  intro n
  induction n using Nat.strongRecOn with
  | ind n ih =>
    intro u hu r
    subst hu
    have one : ∀ (a k : Nat) (r : List UInt8), k < 10 → digN a (UInt8.ofNat (48 + k) :: r) = digN (10 * a + k) r := by
      intro a k r hk
      show digN (10 * a + ((UInt8.ofNat (48 + k)).toNat - 48)) r = _
      rw [dg_nat hk, show 48 + k - 48 = k by omega]
    by_cases h : u < 10
    · rw [dig_small u h, List.singleton_append, one 0 u r h]
      rw [Nat.mul_zero, Nat.zero_add]
    · rw [dig_step u h, List.append_assoc, ih (u / 10) (by omega) (u / 10) rfl, List.singleton_append, one (u / 10) (u % 10) r (by omega), show 10 * (u / 10) + u % 10 = u by omega]

theorem digs_head (u : Nat) : ∃ b r, Lib.decDigits u = b :: r ∧ isDig b = true := by
  cases h : Lib.decDigits u with
  | nil => exact absurd h (digs_ne u)
  | cons b r => exact ⟨b, r, rfl, digs_dig u u rfl b (by rw [h]; simp)⟩

/-- Each byte of a number is a digit, or the sign. -/
theorem itoa_bytes (n : Int) : ∀ b ∈ Lib.itoa n, b = 45 ∨ isDig b = true := by
  intro b hb
  unfold Lib.itoa at hb
  split at hb
  · rcases List.mem_cons.1 hb with rfl | hb
    · exact .inl rfl
    · exact .inr (digs_dig _ _ rfl b hb)
  · exact .inr (digs_dig _ _ rfl b hb)
theorem itoa_ne (n : Int) : Lib.itoa n ≠ [] := by
  unfold Lib.itoa
  split
  · simp
  · exact digs_ne _

theorem int32_iff {n : Int} : int32 n = true ↔ -2147483648 ≤ n ∧ n ≤ 2147483647 := by
  unfold int32
  simp

theorem atoiV_itoa {n : Int} (h : int32 n = true) : atoiV (Lib.itoa n) = (n, false) := by
  obtain ⟨h1, h2⟩ := int32_iff.1 h
  have key : Lib.atoiAll (Lib.itoa n) = .ok n := by
    unfold Lib.itoa
    by_cases h0 : n < 0
    · rw [if_pos h0]
      have hp : Lib.parseMag (Lib.decDigits n.natAbs) = .ok n.natAbs := by
        unfold Lib.parseMag
        rw [if_neg (digs_ne _)]
        have := parse_digs n.natAbs n.natAbs rfl (by omega) []
        rw [List.append_nil] at this
        rw [this]
        rfl
      unfold Lib.atoiAll
      simp only [show (45 : UInt8).toNat = 45 from rfl, or_true, if_true, hp, not_true, false_and, if_false, true_and]
      rw [if_neg (by omega)]
      congr 1
      omega
    · rw [if_neg h0]
      obtain ⟨b, r, hb, hd⟩ := digs_head n.toNat
      have hp : Lib.parseMag (Lib.decDigits n.toNat) = .ok n.toNat := by
        unfold Lib.parseMag
        rw [if_neg (digs_ne _)]
        have := parse_digs n.toNat n.toNat rfl (by omega) []
        rw [List.append_nil] at this
        rw [this]
        rfl
      rw [hb] at hp ⊢
      unfold isDig at hd
      simp only [Bool.and_eq_true, decide_eq_true_eq] at hd
      have e1 : ¬ b.toNat = 45 := by omega
      have e2 : ¬ (b.toNat = 43 ∨ b.toNat = 45) := by omega
      unfold Lib.atoiAll
      have e3 : ¬ 9223372036854775808 ≤ n.toNat := by omega
      have e4 : ((n.toNat : Nat) : Int) = n := by omega
      have e0 : ¬ b.toNat = 43 := by omega
      simp [e0, e1, hp, e3, e4]
  unfold atoiV
  rw [key]

theorem numV_itoa {n : Int} (h : int32 n = true) : numV (Lib.itoa n) = (n, true) := by
  obtain ⟨h1, h2⟩ := int32_iff.1 h
  have hT : numT (Lib.itoa n) = Lib.decDigits n.natAbs := by
    unfold Lib.itoa numT
    by_cases h0 : n < 0
    · rw [if_pos h0, if_pos]
      · rfl
      · refine ⟨?_, rfl⟩
        have := Lib.decDigits_length n.natAbs
        have := Lib.nDigits_pos n.natAbs
        simp; omega
    · rw [if_neg h0, show n.natAbs = n.toNat by omega]
      obtain ⟨b, r, hb, hd⟩ := digs_head n.toNat
      rw [hb]
      rw [if_neg]
      rintro ⟨_, h3⟩
      rw [List.headD_cons] at h3
      rw [h3] at hd
      exact absurd hd (by decide)
  have hN : numN (Lib.itoa n) = n := by
    unfold numN
    rw [hT]
    have := digN_digs n.natAbs n.natAbs rfl []
    rw [List.append_nil] at this
    have e : digN 0 (Lib.decDigits n.natAbs) = n.natAbs := this
    rw [e]
    unfold Lib.itoa
    by_cases h0 : n < 0
    · rw [if_pos h0, List.headD_cons, if_pos rfl]; omega
    · rw [if_neg h0]
      obtain ⟨b, r, hb, hd⟩ := digs_head n.toNat
      rw [hb, if_neg]
      · omega
      · intro h3
        rw [List.headD_cons] at h3
        rw [h3] at hd
        exact absurd hd (by decide)
  have hok : numOk (Lib.itoa n) = true := by
    unfold numOk
    rw [hN, hT, h]
    have e1 : (Lib.decDigits n.natAbs).isEmpty = false := by simpa using digs_ne n.natAbs
    have e2 : (Lib.decDigits n.natAbs).length ≤ 12 := by
      rw [Lib.decDigits_length]
      have := nd_le 9 n.natAbs (by omega)
      omega
    have e3 : (Lib.decDigits n.natAbs).all isDig = true := List.all_eq_true.2 (digs_dig _ _ rfl)
    rw [e1, e3, decide_eq_true e2]
    simp
  unfold numV
  rw [hok, hN]
  rfl

/-! ### The words of a line -/
theorem table_words : (List.range 39).map (fun n : Nat => inR (n : Int) && (wordOf (n : Int)).contains 32) = (List.range 39).map fun _ : Nat => false := by kernel_rfl
theorem word_plain {a : Int} (h : inR a = true) : (32 : UInt8) ∉ wordOf a := by
  obtain ⟨n, rfl, hn⟩ := inR_nat h
  have := of_map table_words hn
  simp only [h, Bool.true_and] at this
  intro h2
  rw [List.contains_iff_mem.2 h2] at this
  cases this
theorem itoa_plain (n : Int) : (32 : UInt8) ∉ Lib.itoa n := fun h => by
  rcases itoa_bytes n 32 h with h1 | h1
  · exact absurd h1 (by decide)
  · exact absurd h1 (by decide)
theorem plainT_iff {s : List UInt8} (h : plainT s = true) : s ≠ [] ∧ (32 : UInt8) ∉ s := by
  unfold plainT at h
  simp only [Bool.and_eq_true, Bool.not_eq_true'] at h
  refine ⟨by intro h2; rw [h2] at h; exact absurd h.1 (by decide), fun h2 => ?_⟩
  have := List.any_eq_false.1 h.2 32 h2
  exact this rfl

theorem Ins.lineOk_iff {x : Ins} : x.lineOk = true ↔ inR x.o = true ∧ (rowB x.o 1 = true → int32 x.a = true) ∧ (rowB x.o 2 = true → int32 x.b = true) ∧ (rowB x.o 3 = true → plainT x.c = true) ∧ (rowB x.o 4 = true → plainT x.n = true) ∧ (rowB x.o 5 = true → plainT x.d = true) := by
  unfold Ins.lineOk Ins.numsOk Ins.textsOk
  cases inR x.o <;> cases rowB x.o 1 <;> cases rowB x.o 2 <;> cases rowB x.o 3 <;> cases rowB x.o 4 <;> cases rowB x.o 5 <;> simp [and_assoc]

theorem Ins.words_good {x : Ins} (h : x.lineOk = true) : ∀ w ∈ x.words, w ≠ [] ∧ (32 : UInt8) ∉ w := by
  obtain ⟨h0, h1, h2, h3, h4, h5⟩ := Ins.lineOk_iff.1 h
  intro w hw
  simp only [Ins.words, Ins.nums, Ins.texts, List.mem_cons, List.mem_append] at hw
  have num : ∀ (f : Bool) (n : Int), w ∈ numW f n → w ≠ [] ∧ (32 : UInt8) ∉ w := by
    intro f n hw
    cases f
    · simp [numW] at hw
    · simp [numW] at hw; subst hw; exact ⟨itoa_ne n, itoa_plain n⟩
  have txt : ∀ (f : Bool) (t : List UInt8), (f = true → plainT t = true) → w ∈ textW f t → w ≠ [] ∧ (32 : UInt8) ∉ w := by
    intro f t ht hw
    cases f
    · simp [textW] at hw
    · simp [textW] at hw; subst hw; exact plainT_iff (ht rfl)
  rcases hw with rfl | (hw | hw) | (hw | hw) | hw
  · exact ⟨word_some h0, word_plain h0⟩
  · exact num _ _ hw
  · exact num _ _ hw
  · exact txt _ _ h3 hw
  · exact txt _ _ h4 hw
  · exact txt _ _ h5 hw

theorem Ins.line_of_ok {x : Ins} (h : x.lineOk = true) : x.line = Lib.join x.words [32] := by
  unfold Ins.line; rw [h]; rfl
theorem Ins.line_of_bad {x : Ins} (h : x.lineOk = false) : x.line = [] := by
  unfold Ins.line; rw [h]; rfl
theorem Ins.cut_line {x : Ins} (h : x.lineOk = true) : cutV x.line = x.words := by
  rw [Ins.line_of_ok h]
  exact cutV_join _ (by simp [Ins.words]) (fun w hw => (Ins.words_good h w hw).2)
theorem Ins.line_ne {x : Ins} (h : x.lineOk = true) : x.line ≠ [] := by
  intro h2
  have h3 := Ins.cut_line h
  rw [h2] at h3
  have h4 := (Ins.words_good h (wordOf x.o) (by simp [Ins.words])).1
  simp [cutV, Ins.words] at h3
  exact h4 h3.1
theorem Ins.ok_of_line {x : Ins} (h : x.line ≠ []) : x.lineOk = true := by
  cases h2 : x.lineOk with
  | true => rfl
  | false => exact absurd (Ins.line_of_bad h2) h

/-- What is read is of its operation's shape. -/
def Ins.Pure (x : Ins) : Prop := (rowB x.o 1 = false → x.a = 0) ∧ (rowB x.o 2 = false → x.b = 0) ∧ (rowB x.o 3 = false → x.c = []) ∧ (rowB x.o 4 = false → x.n = []) ∧ (rowB x.o 5 = false → x.d = [])

theorem parseR_pure (s : List UInt8) : (parseR s).1.Pure := by
  have n1 : ∀ (r : Rd) (f : Bool), f = false → (r.numIf f).1 = 0 := by rintro r _ rfl; rfl
  have t1 : ∀ (r : Rd) (f : Bool), f = false → (r.wordIf f).1 = [] := by rintro r _ rfl; rfl
  exact ⟨n1 _ _, n1 _ _, t1 _ _, t1 _ _, t1 _ _⟩
theorem candR_pure (s : List UInt8) : (candR s).Pure := by
  have n1 : ∀ l k (f : Bool), f = false → nIf f l k = 0 := by rintro l k _ rfl; rfl
  have t1 : ∀ l k (f : Bool), f = false → tIf f l k = [] := by rintro l k _ rfl; rfl
  exact ⟨n1 _ _ _, n1 _ _ _, t1 _ _ _, t1 _ _ _, t1 _ _ _⟩

theorem parseR_line {x : Ins} (h : x.lineOk = true) (hp : x.Pure) : parseR x.line = (x, ⟨[], false⟩) := by
  obtain ⟨h0, h1, h2, h3, h4, h5⟩ := Ins.lineOk_iff.1 h
  obtain ⟨p1, p2, p3, p4, p5⟩ := hp
  unfold parseR
  rw [Ins.cut_line h]
  unfold Ins.words Ins.nums Ins.texts
  have hop := opOfV_word h0
  obtain ⟨o, a, b, c, n, d⟩ := x
  dsimp only at *
  simp only [Rd.word, hop]
  generalize rowB o 1 = f1 at *
  generalize rowB o 2 = f2 at *
  generalize rowB o 3 = f3 at *
  generalize rowB o 4 = f4 at *
  generalize rowB o 5 = f5 at *
  cases f1 <;> cases f2 <;> cases f3 <;> cases f4 <;> cases f5 <;> simp at h1 h2 p1 p2 p3 p4 p5 <;>
    simp [numW, textW, Rd.numIf, Rd.wordIf, Rd.num, Rd.word, atoiV_itoa, *]

theorem candR_line {x : Ins} (h : x.lineOk = true) (hp : x.Pure) : candR x.line = x := by
  obtain ⟨h0, h1, h2, h3, h4, h5⟩ := Ins.lineOk_iff.1 h
  obtain ⟨p1, p2, p3, p4, p5⟩ := hp
  unfold candR
  rw [Ins.cut_line h]
  unfold Ins.words Ins.nums Ins.texts
  have hop := opOfV_word h0
  obtain ⟨o, a, b, c, n, d⟩ := x
  dsimp only at *
  simp only [List.headD_cons, hop]
  generalize rowB o 1 = f1 at *
  generalize rowB o 2 = f2 at *
  generalize rowB o 3 = f3 at *
  generalize rowB o 4 = f4 at *
  generalize rowB o 5 = f5 at *
  cases f1 <;> cases f2 <;> cases f3 <;> cases f4 <;> cases f5 <;> simp at h1 h2 p1 p2 p3 p4 p5 <;>
    simp [numW, textW, nIf, tIf, up, wk, pad, numV_itoa, *]

theorem opOfV_nil : opOfV [] = 0 := by
  rcases opOfV_cases [] with ⟨n, _, _, _, h4, h5, _⟩ | ⟨h, _⟩
  · exact absurd h4 (word_some h5)
  · exact h

/-- Both readers read alike. -/
theorem asmP_eq (s : List UInt8) : asmP s = refP s := by
  unfold asmP refP
  by_cases hr : ((candR s).o != 0 && ((candR s).line == s)) = true
  · rw [hr]
    simp only [Bool.and_eq_true, bne_iff_ne, ne_eq, beq_iff_eq] at hr
    obtain ⟨h1, h2⟩ := hr
    have hs : s ≠ [] := by
      rintro rfl
      apply h1
      show opOfV ((cutV []).headD []) = 0
      simp [cutV, opOfV_nil]
    have hok := Ins.ok_of_line (x := candR s) (by rw [h2]; exact hs)
    have h3 := parseR_line hok (candR_pure s)
    rw [h2] at h3
    have h4 : s.isEmpty = false := by simpa using hs
    rw [h3, h4]
    simp [Rd.ended, h2]
  · have hr' : ((candR s).o != 0 && ((candR s).line == s)) = false := by simpa using hr
    rw [hr']
    cases ha : ((parseR s).2.ended && !s.isEmpty && ((parseR s).1.line == s)) with
    | false => rfl
    | true =>
      exfalso
      simp only [Bool.and_eq_true, Bool.not_eq_true', beq_iff_eq] at ha
      obtain ⟨⟨_, h4⟩, h2⟩ := ha
      have hs : s ≠ [] := by simpa using h4
      have hok := Ins.ok_of_line (x := (parseR s).1) (by rw [h2]; exact hs)
      have h3 := candR_line hok (parseR_pure s)
      rw [h2] at h3
      apply hr
      rw [h3, h2]
      have h0 := (Ins.lineOk_iff.1 hok).1
      have h5 : (parseR s).1.o ≠ 0 := by
        intro h6
        rw [h6] at h0
        exact absurd h0 (by decide)
      simp [h5]

end Go.Proofs.YtgmlanhhjmhmmaaDoor.Ev

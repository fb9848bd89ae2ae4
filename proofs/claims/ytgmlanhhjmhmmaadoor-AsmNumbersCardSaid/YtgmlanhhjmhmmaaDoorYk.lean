/- The law AsmLines: any instruction is written, any line is read, as the document says. -/
import Derived.Test.YtgmlanhhjmhmmaaDoorYj
namespace Go.Proofs.YtgmlanhhjmhmmaaDoor.Ev
open Go

/-- What is read is the instruction whose line it is, or there is none. -/
theorem asmP_line {x : Ins} (h : x.lineOk = true) (hp : x.Pure) : asmP x.line = (x, 0) := by
  unfold asmP
  rw [parseR_line h hp]
  have h2 : x.line.isEmpty = false := by simpa using Ins.line_ne h
  rw [h2]
  simp [Rd.ended]
theorem asmP_bad {s : List UInt8} (h : ∀ y : Ins, y.lineOk = true → y.Pure → y.line ≠ s) : asmP s = (zI, 7) := by
  unfold asmP
  cases ha : ((parseR s).2.ended && !s.isEmpty && ((parseR s).1.line == s)) with
  | false => rfl
  | true =>
    exfalso
    simp only [Bool.and_eq_true, Bool.not_eq_true', beq_iff_eq] at ha
    obtain ⟨⟨_, h4⟩, h2⟩ := ha
    have hs : s ≠ [] := by simpa using h4
    exact h _ (Ins.ok_of_line (x := (parseR s).1) (by rw [h2]; exact hs)) (parseR_pure s) h2
/-- A line's words are those of its instruction. -/
theorem cut_of_line {y : Ins} {s : List UInt8} (h : y.lineOk = true) (e : y.line = s) : cutV s = y.words := by
  rw [← e]; exact Ins.cut_line h

theorem row2 : wordOf 2 = [105, 99, 111, 110, 115, 116] ∧ rowB 2 1 = true ∧ rowB 2 2 = false ∧ rowB 2 3 = false ∧ rowB 2 4 = false ∧ rowB 2 5 = false ∧ inR 2 = true := by decide
theorem row17 : wordOf 17 = [103, 111, 116, 111] ∧ rowB 17 1 = true ∧ rowB 17 2 = false ∧ rowB 17 3 = false ∧ rowB 17 4 = false ∧ rowB 17 5 = false ∧ inR 17 = true := by decide

def icon (n : Int) : Ins := ⟨2, n, 0, [], [], []⟩
theorem icon_ok {n : Int} (h : int32 n = true) : (icon n).lineOk = true := by
  obtain ⟨r0, r1, r2, r3, r4, r5, r6⟩ := row2
  refine Ins.lineOk_iff.2 ⟨r6, fun _ => h, ?_, ?_, ?_, ?_⟩ <;> intro h2 <;> simp only [icon] at h2 <;> simp_all
theorem icon_pure (n : Int) : (icon n).Pure := by
  refine ⟨fun h => ?_, fun _ => rfl, fun _ => rfl, fun _ => rfl, fun _ => rfl⟩
  simp only [icon] at h
  rw [row2.2.1] at h; cases h
theorem icon_words (n : Int) : (icon n).words = [[105, 99, 111, 110, 115, 116], Lib.itoa n] := by
  obtain ⟨r0, r1, r2, r3, r4, r5, r6⟩ := row2
  simp [Ins.words, Ins.nums, Ins.texts, icon, r0, r1, r2, r3, r4, r5, numW, textW]
theorem icon_line {n : Int} (h : int32 n = true) : (icon n).line = [105, 99, 111, 110, 115, 116, 32] ++ Lib.itoa n := by
  rw [Ins.line_of_ok (icon_ok h), icon_words, Lib.join_cons]
  simp [Lib.joinTail]
/-- What begins so is that instruction. -/
theorem icon_of {y : Ins} (h : y.lineOk = true) (hp : y.Pure) (hw : wordOf y.o = [105, 99, 111, 110, 115, 116]) : y = icon y.a ∧ int32 y.a = true := by
  obtain ⟨r0, r1, r2, r3, r4, r5, r6⟩ := row2
  obtain ⟨h0, h1, h2, h3, h4, h5⟩ := Ins.lineOk_iff.1 h
  have ho : y.o = 2 := by
    have e1 := opOfV_word h0
    have e2 := opOfV_word r6
    rw [hw] at e1; rw [r0] at e2
    exact e1.symm.trans e2
  obtain ⟨o, a, b, c, n, d⟩ := y
  dsimp only at *
  subst ho
  obtain ⟨p1, p2, p3, p4, p5⟩ := hp
  dsimp only at *
  rw [p2 r2, p3 r3, p4 r4, p5 r5]
  exact ⟨rfl, h1 r1⟩

theorem itoa5 : Lib.itoa 5 = [53] := by
  unfold Lib.itoa
  rw [if_neg (by decide)]
  exact dig_small 5 (by decide)
theorem itoa3 : Lib.itoa 3 = [51] := by
  unfold Lib.itoa
  rw [if_neg (by decide)]
  exact dig_small 3 (by decide)

/-- A number is not written with a 0 ahead. -/
theorem itoa_zero {n : Int} {r : List UInt8} (h : int32 n = true) (h2 : Lib.itoa n = 48 :: r) : r = [] := by
  obtain ⟨h3, h4⟩ := int32_iff.1 h
  have key : ∀ (m u : Nat), u = m → ∀ r, Lib.decDigits u = 48 :: r → r = [] := by
    intro m
    induction m using Nat.strongRecOn with
    | ind m ih =>
      intro u hu r hr
      subst hu
      by_cases h : u < 10
      · rw [dig_small u h] at hr
        simp at hr
        exact hr.2
      · exfalso
        rw [dig_step u h] at hr
        obtain ⟨b, q, hb, _⟩ := digs_head (u / 10)
        rw [hb, List.cons_append] at hr
        injection hr with e1 e2
        subst e1
        have := ih (u / 10) (by omega) (u / 10) rfl q hb
        subst this
        have h5 : u / 10 = 0 := by
          by_cases h6 : u / 10 < 10
          · rw [dig_small _ h6] at hb
            have h7 := congrArg (fun l => l.head?.map UInt8.toNat) hb
            simp only [List.head?_cons, Option.map_some] at h7
            rw [dg_nat h6] at h7
            have := Option.some.inj h7
            have e : (48 : UInt8).toNat = 48 := rfl
            omega
          · have := congrArg List.length hb
            rw [Lib.decDigits_length, Lib.nDigits_big h6] at this
            have := Lib.nDigits_pos (u / 10 / 10)
            simp at *
            omega
        omega
  unfold Lib.itoa at h2
  split at h2
  · injection h2 with e1 _
    exact absurd e1 (by decide)
  · exact key _ _ rfl _ h2

theorem short5 (o a : Int) (h : int32 a = true) : (⟨o, a, 0, [], [], []⟩ : Ins).Short := by
  obtain ⟨h1, h2⟩ := int32_iff.1 h
  exact ⟨⟨by show -9223372036854775808 ≤ a; omega, by show a ≤ 9223372036854775807; omega⟩, ⟨by show (-9223372036854775808 : Int) ≤ 0; decide, by show (0 : Int) ≤ 9223372036854775807; decide⟩, by simp, by simp, by simp⟩

theorem asmP5 : asmP [105, 99, 111, 110, 115, 116, 32, 53] = (icon 5, 0) := by
  have h := asmP_line (icon_ok (n := 5) (by decide)) (icon_pure 5)
  rw [icon_line (by decide), itoa5] at h
  exact h
theorem asmP05 : asmP [105, 99, 111, 110, 115, 116, 32, 48, 53] = (zI, 7) := by
  refine asmP_bad fun y hy hp he => ?_
  have hc := cut_of_line hy he
  have e : cutV [105, 99, 111, 110, 115, 116, 32, 48, 53] = [[105, 99, 111, 110, 115, 116], [48, 53]] := by decide
  rw [e] at hc
  have hw : wordOf y.o = [105, 99, 111, 110, 115, 116] := by
    have := congrArg (fun l => l.head?) hc
    simp only [Ins.words, List.head?_cons] at this
    exact (Option.some.inj this).symm
  obtain ⟨hy2, h32⟩ := icon_of hy hp hw
  rw [hy2, icon_words] at hc
  injection hc with _ hc
  injection hc with hc _
  have := itoa_zero h32 hc.symm
  cases this

theorem line17 : (⟨17, 3, 0, [], [], []⟩ : Ins).line = [103, 111, 116, 111, 32, 51] := by
  obtain ⟨r0, r1, r2, r3, r4, r5, r6⟩ := row17
  have hok : (⟨17, 3, 0, [], [], []⟩ : Ins).lineOk = true := by
    refine Ins.lineOk_iff.2 ⟨r6, fun _ => by decide, ?_, ?_, ?_, ?_⟩ <;> intro h2 <;> simp only at h2 <;> simp_all
  rw [Ins.line_of_ok hok]
  simp only [Ins.words, Ins.nums, Ins.texts, r0, r1, r2, r3, r4, r5, numW, textW, cond_true, cond_false, itoa3]
  decide

theorem ev_awakeA : ev tab prim 8 [] [[], []] = some (.bool true, [[], []]) := by
  have h1 := ev_ParseLine [105, 99, 111, 110, 115, 116, 32, 53] (by simp)
  have h2 := ev_ParseLine [105, 99, 111, 110, 115, 116, 32, 48, 53] (by simp)
  have h3 := ev_Line ⟨17, 3, 0, [], [], []⟩ (short5 17 3 (by decide))
  rw [asmP5] at h1
  rw [asmP05] at h2
  rw [line17] at h3
  unfold Ins.v icon at h1
  unfold Ins.v zI at h2
  unfold Ins.v at h3
  rw [ev_fn' tab prim (f := 8) rfl _ _ rfl]
  simp [h1, h2, h3]

theorem size_short (x : Ins) (hx : x.Wf) (n : Int) (hn : n ≤ 2000) (h : x.size ≤ n) : x.Short := by
  have hh := (sumF_held [(x.c.length : Int), (x.n.length : Int), (x.d.length : Int)] 1 (by omega) (by simp)).2
  unfold Ins.size at h
  have hs := hh (by omega)
  rw [hs] at h
  simp at h
  have e1 : IntKind.i64.min = -9223372036854775808 := rfl
  have e2 : IntKind.i64.max = 9223372036854775807 := rfl
  have ha := hx.a
  have hb := hx.b
  simp [Lit.wf, e1, e2] at ha hb
  exact ⟨ha, hb, by omega, by omega, by omega⟩

set_option maxHeartbeats 4000000 in
theorem ev_lawLines (x : Ins) (hx : x.Wf) (s : List UInt8) : ev tab prim 3 [x.v, .str s] [[], []] = some (.bool true, [[], []]) := by
  have h1 := ev_InstrSize x
  have h2 := ev_Sum x.size [(s.length : Int)] (by simp) x.size_pos (by simp) true
  have h2' := ev_Sum x.size [(s.length : Int)] (by simp) x.size_pos (by simp) false
  have hw := ev_awakeA
  by_cases hb : 1000 < sumF x.size [(s.length : Int)]
  · unfold Ins.v at *
    rw [ev_fn' tab prim (f := 3) rfl _ _ rfl]
    simp at h2 h2'
    simp [h1, h2, h2', hb, hw]
  · have hh := (sumF_held [(s.length : Int)] x.size x.size_pos (by simp)).2 (by omega)
    simp at hh
    have hsh := size_short x hx 1000 (by omega) (by omega)
    have hpos := x.size_pos
    have hl : s.length ≤ 2000 := by omega
    have a1 := ev_ParseLine s hl
    have a2 := ev_refParseLine s hl
    have a3 := ev_Line x hsh
    have a4 := ev_refLine x hsh
    rw [← asmP_eq] at a2
    generalize asmP s = p at *
    obtain ⟨y, e⟩ := p
    generalize x.line = ln at *
    unfold Ins.v at *
    rw [ev_fn' tab prim (f := 3) rfl _ _ rfl]
    simp at h2 h2'
    simp [-rSeq, h1, h2, h2', hb, hw, a1, a2, a3, a4, rseq6, eq6_refl]

end Go.Proofs.YtgmlanhhjmhmmaaDoor.Ev

/- The law AsmBack: a line is read as it was written; with a blank more, or a word more, it is none. -/
import Derived.Test.YtgmlanhhjmhmmaaDoorYk
namespace Go.Proofs.YtgmlanhhjmhmmaaDoor.Ev
open Go

theorem cutV_blank : ∀ s t : List UInt8, cutV (s ++ 32 :: t) = cutV s ++ cutV t
  | [], t => by simp [cutV]
  | b :: r, t => by
    have ih := cutV_blank r t
    have e : ∀ (b : UInt8) (r : List UInt8), cutV (b :: r) = if b = 32 then [] :: cutV r else match cutV r with
      | [] => [[b]]
      | w :: ws => (b :: w) :: ws := fun _ _ => rfl
    rw [List.cons_append, e b (r ++ 32 :: t), e b r]
    by_cases hb : b = 32
    · rw [if_pos hb, if_pos hb, ih, List.cons_append]
    · rw [if_neg hb, if_neg hb, ih]
      cases hc : cutV r with
      | nil => exact absurd hc (cutV_ne r)
      | cons w ws => simp

/-- The same, as far as its operation asks. -/
def Ins.strip (x : Ins) : Ins := ⟨x.o, mI (rowB x.o 1) x.a, mI (rowB x.o 2) x.b, mS (rowB x.o 3) x.c, mS (rowB x.o 4) x.n, mS (rowB x.o 5) x.d⟩
theorem Ins.strip_pure (x : Ins) : x.strip.Pure := by
  have n1 : ∀ (f : Bool) a, f = false → mI f a = 0 := by rintro _ a rfl; rfl
  have t1 : ∀ (f : Bool) a, f = false → mS f a = [] := by rintro _ a rfl; rfl
  exact ⟨n1 _ _, n1 _ _, t1 _ _, t1 _ _, t1 _ _⟩
theorem Ins.strip_ok {x : Ins} (h : x.lineOk = true) : x.strip.lineOk = true := by
  obtain ⟨h0, h1, h2, h3, h4, h5⟩ := Ins.lineOk_iff.1 h
  refine Ins.lineOk_iff.2 ⟨h0, fun h => ?_, fun h => ?_, fun h => ?_, fun h => ?_, fun h => ?_⟩ <;> simp only [Ins.strip] at h ⊢ <;> rw [h]
  · exact h1 h
  · exact h2 h
  · exact h3 h
  · exact h4 h
  · exact h5 h
theorem Ins.strip_words (x : Ins) : x.strip.words = x.words := by
  unfold Ins.words Ins.nums Ins.texts Ins.strip
  dsimp only
  cases rowB x.o 1 <;> cases rowB x.o 2 <;> cases rowB x.o 3 <;> cases rowB x.o 4 <;> cases rowB x.o 5 <;> rfl
theorem Ins.strip_line {x : Ins} (h : x.lineOk = true) : x.strip.line = x.line := by
  rw [Ins.line_of_ok h, Ins.line_of_ok (Ins.strip_ok h), Ins.strip_words]

theorem asmP_back {x : Ins} (h : x.lineOk = true) : asmP x.line = (x.strip, 0) := by
  rw [← Ins.strip_line h]
  exact asmP_line (Ins.strip_ok h) x.strip_pure

theorem asmP_end {x : Ins} (h : x.lineOk = true) : asmP (x.line ++ [32]) = (zI, 7) := by
  refine asmP_bad fun y hy hp he => ?_
  have hc := cut_of_line hy he
  rw [cutV_blank, Ins.cut_line h] at hc
  have := (Ins.words_good hy [] (by rw [← hc]; simp [cutV])).1
  exact this rfl
theorem asmP_front (s : List UInt8) : asmP (32 :: s) = (zI, 7) := by
  refine asmP_bad fun y hy hp he => ?_
  have hc := cut_of_line hy he
  have := (Ins.words_good hy [] (by rw [← hc]; simp [cutV])).1
  exact this rfl
theorem Ins.words_len (x : Ins) : x.words.length = 1 + (rowB x.o 1).toNat + (rowB x.o 2).toNat + (rowB x.o 3).toNat + (rowB x.o 4).toNat + (rowB x.o 5).toNat := by
  unfold Ins.words Ins.nums Ins.texts
  cases rowB x.o 1 <;> cases rowB x.o 2 <;> cases rowB x.o 3 <;> cases rowB x.o 4 <;> cases rowB x.o 5 <;> rfl
theorem asmP_more {x : Ins} (h : x.lineOk = true) (w : List UInt8) (hw : (32 : UInt8) ∉ w) : asmP (x.line ++ 32 :: w) = (zI, 7) := by
  refine asmP_bad fun y hy hp he => ?_
  have hc := cut_of_line hy he
  rw [cutV_blank, Ins.cut_line h, cutV_plain w hw] at hc
  have h0 := (Ins.lineOk_iff.1 h).1
  have h1 := (Ins.lineOk_iff.1 hy).1
  have ho : x.o = y.o := by
    have e := congrArg (fun l => l.head?) hc
    simp only [Ins.words, List.cons_append, List.head?_cons] at e
    have e1 := opOfV_word h0
    rw [Option.some.inj e, opOfV_word h1] at e1
    exact e1.symm
  have hl := congrArg List.length hc
  rw [List.length_append, Ins.words_len, Ins.words_len, ho] at hl
  simp at hl

theorem table_len : (List.range 39).map (fun n : Nat => decide ((wordOf (n : Int)).length ≤ 20)) = (List.range 39).map fun _ : Nat => true := by kernel_rfl
theorem itoa_len21 (n : Int) (h : -9223372036854775808 ≤ n ∧ n ≤ 9223372036854775807) : (Lib.itoa n).length ≤ 21 := by
  unfold Lib.itoa
  split
  · rw [List.length_cons, Lib.decDigits_length]
    have := nd_le 19 n.natAbs (by omega)
    omega
  · rw [Lib.decDigits_length]
    have := nd_le 19 n.toNat (by omega)
    omega
theorem line_len {x : Ins} (hx : x.Short) : x.line.length ≤ 100 + x.c.length + x.n.length + x.d.length := by
  cases h : x.lineOk with
  | false => rw [Ins.line_of_bad h]; simp
  | true =>
    have h0 := (Ins.lineOk_iff.1 h).1
    have hw : (wordOf x.o).length ≤ 20 := by
      obtain ⟨k, hk, hn⟩ := inR_nat h0
      rw [hk]
      exact of_decide_eq_true (of_map table_len hn)
    rw [Ins.line_of_ok h, join_words]
    have n1 : ∀ (f : Bool) n, (Lib.itoa n).length ≤ 21 → (nW f n).length ≤ 22 := fun f n hn => by cases f <;> simp [nW] <;> omega
    have t1 : ∀ (f : Bool) (t : List UInt8), (tW f t).length ≤ 1 + t.length := fun f t => by cases f <;> simp [tW] <;> omega
    have q1 := n1 (rowB x.o 1) x.a (itoa_len21 _ hx.a)
    have q2 := n1 (rowB x.o 2) x.b (itoa_len21 _ hx.b)
    have q3 := t1 (rowB x.o 3) x.c
    have q4 := t1 (rowB x.o 4) x.n
    have q5 := t1 (rowB x.o 5) x.d
    simp only [List.length_append]
    omega

theorem size_len (x : Ins) (hx : x.Wf) (n : Int) (hn : n ≤ 2000) (h : x.size ≤ n) : (x.c.length : Int) + x.n.length + x.d.length ≤ n := by
  have hh := (sumF_held [(x.c.length : Int), (x.n.length : Int), (x.d.length : Int)] 1 (by omega) (by simp)).2
  unfold Ins.size at h
  have hs := hh (by omega)
  rw [hs] at h
  simp at h
  omega

set_option maxHeartbeats 4000000 in
theorem ev_lawAsmBack (x : Ins) (hx : x.Wf) : ev tab prim 4 [x.v] [[], []] = some (.bool true, [[], []]) := by
  have h1 := ev_InstrSize x
  have hw := ev_awakeA
  by_cases hb : 500 < x.size
  · unfold Ins.v at *
    rw [ev_fn' tab prim (f := 4) rfl _ _ rfl]
    simp [h1, hb, hw]
  · have hsh := size_short x hx 500 (by omega) (by omega)
    have hln := line_len hsh
    have hsl := size_len x hx 500 (by omega) (by omega)
    have hl : x.line.length ≤ 700 := by omega
    have a3 := ev_Line x hsh
    have a4 := ev_refLine x hsh
    cases hok : x.lineOk with
    | false =>
      rw [Ins.line_of_bad hok] at a3 a4
      unfold Ins.v at *
      rw [ev_fn' tab prim (f := 4) rfl _ _ rfl]
      simp [h1, hb, hw, a3, a4]
    | true =>
      have hne : x.line.isEmpty = false := by simpa using Ins.line_ne hok
      have p1 := ev_ParseLine x.line (by omega)
      have p2 := ev_ParseLine (x.line ++ [32]) (by simp; omega)
      have p3 := ev_ParseLine (32 :: x.line) (by simp; omega)
      have p4 := ev_ParseLine (x.line ++ [32, 120]) (by simp; omega)
      rw [asmP_back hok] at p1
      rw [asmP_end hok] at p2
      rw [asmP_front] at p3
      rw [asmP_more hok [120] (by decide)] at p4
      have hP := ev13 x.o x.a x.b x.c x.n x.d
      have l1 : x.line.length + 1 ≤ 9223372036854775807 := by omega
      have l2 : x.line.length + 2 ≤ 9223372036854775807 := by omega
      have l3 : 1 + x.line.length ≤ 9223372036854775807 := by omega
      unfold Ins.strip at p1
      generalize mI (rowB x.o 1) x.a = pa at *
      generalize mI (rowB x.o 2) x.b = pb at *
      generalize mS (rowB x.o 3) x.c = pc at *
      generalize mS (rowB x.o 4) x.n = pn at *
      generalize mS (rowB x.o 5) x.d = pd at *
      clear hln hl a4
      generalize x.line = ln at *
      unfold Ins.v zI at *
      rw [ev_fn' tab prim (f := 4) rfl _ _ rfl]
      simp [-rSeq, h1, hb, hw, a3, hne, p1, p2, p3, p4, hP, l1, l2, l3, rseq6, eq6_refl]

end Go.Proofs.YtgmlanhhjmhmmaaDoor.Ev

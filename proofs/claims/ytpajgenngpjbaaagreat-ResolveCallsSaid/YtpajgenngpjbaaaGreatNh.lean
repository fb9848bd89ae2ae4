import Derived.Test.YtpajgenngpjbaaaGreatNf
import Derived.Test.YtpajgenngpjbaaaGreatKzs
/- The law ResolveCalls. -/
namespace Go.Proofs.YtpajgenngpjbaaaGreat.Ev
open Go

/-! ### same -/
def oneM (m : Mth) : Cls := ⟨[], [], false, false, [], [], [m]⟩
theorem oneM_wf {m : Mth} (h : m.Wf) : (oneM m).Wf := by
  have hM : (1 : Nat) ≤ maxLen := by decide
  refine ⟨by simp [oneM], by simp [oneM], by simpa [oneM] using hM, fun x hx => ?_, by simp [oneM], by simp [oneM], fun x hx => (by cases hx), fun x hx => (by cases hx)⟩
  unfold oneM at hx
  rw [List.mem_singleton.1 hx]
  exact h
theorem ev_same (a b : Mth) (ha : a.Wf) : ev tab prim 25 [a.v, b.v] [[], []] = some (.bool ((oneM a).same (oneM b)), [[], []]) := by
  have h := ev_RefSame (oneM a) (oneM b) (oneM_wf ha)
  generalize (oneM a).same (oneM b) = r at *
  unfold oneM Cls.v Cls.cells at h
  simp only [List.map_nil, List.map_cons] at h
  unfold Mth.v Mth.cells at h ⊢
  rw [ev_fn' tab prim (f := 25) rfl _ _ rfl]
  simp [h]
theorem same_self (m : Mth) : (oneM m).same (oneM m) = true := Cls.same_refl _

/-! ### What a call names -/
theorem mthF_mem {S : List Cls} : ∀ {l : List Nm} {nm d o : Nm} {m : Mth}, mthF S l nm d = some (o, m) → o ∈ l ∧ metF S o nm d = some m
  | [], _, _, _, _, h => by cases h
  | s :: r, nm, d, o, m, h => by
    unfold mthF at h
    cases hs : metF S s nm d with
    | some m' => rw [hs] at h; cases h; exact ⟨by simp, hs⟩
    | none =>
      rw [hs] at h
      obtain ⟨h1, h2⟩ := mthF_mem h
      exact ⟨List.mem_cons_of_mem _ h1, h2⟩
theorem above_none {S : List Cls} {n : Nm} (h : look S n = none) : aboveL S n = [] := by
  have hc : chain S n = [] := by unfold chain; rw [chainG, h]
  have hs : spreadN S (fuelS S) n [] = [] := by
    unfold fuelS
    rw [spreadN, hc]
    rfl
  unfold aboveL
  rw [ifcs_N]
  unfold ifcsN
  rw [h, hs, hc]
  have hz : (Cls.zero.i) = false := rfl
  simp only [Option.getD_none, hz, Bool.false_eq_true, if_false, sortT]
  simp
theorem look_fine {S : List Cls} {x : Ins} {o : Nm} {m : Mth} (h : lookF S x = some (o, m)) : (look S x.c).isSome = true ∧ (∃ d, look S o = some d ∧ m ∈ d.ms) ∧ m.n = x.n ∧ m.d = x.d ∧ mayF S x o m = true := by
  unfold lookF at h
  cases hm : mthF S (aboveL S x.c) x.n x.d with
  | none => rw [hm] at h; cases h
  | some om =>
    obtain ⟨o', m'⟩ := om
    rw [hm] at h
    simp only at h
    split at h
    · rename_i hb
      cases h
      obtain ⟨h1, h2⟩ := mthF_mem hm
      obtain ⟨h3, h4, h5⟩ := metF_name h2
      refine ⟨?_, ?_, h4, h5, hb⟩
      · cases hl : look S x.c with
        | none => rw [above_none hl] at h1; cases h1
        | some c => rfl
      · cases hl : look S o with
        | none => rw [hl] at h3; cases h3
        | some d => rw [hl] at h3; exact ⟨d, rfl, h3⟩
    · cases h

def hcSt (x : Ins) (o : Nm) (m : Mth) (c d : Cls) (b1 b2 : Bool) (f : Mth → Bool) (j : Nat) (M : Mem) : St :=
  { env := [(3, .cptr [.int .i64 x.o, .int .i64 x.a, .int .i64 x.b, .str x.c, .str x.n, .str x.d]), (8, .str o), (9, .cptr m.cells), (11, .cptr c.cells), (12, .bool b1), (13, .cptr d.cells), (14, .bool b2), (15, .bool ((d.ms.take j).any f)), (16, .int .i64 (j : Int))], mem := M }
theorem hc_loop (x : Ins) (o : Nm) (m : Mth) (c d : Cls) (b1 b2 : Bool) (hd : d.Wf) (hdl : d.ms.length ≤ 100000) (M : Mem) :
    cv tab prim (.loop L5_0) (hcSt x o m c d b1 b2 (fun y => (oneM y).same (oneM m)) 0 M) =
      some (.exit 0, { env := [(3, .cptr [.int .i64 x.o, .int .i64 x.a, .int .i64 x.b, .str x.c, .str x.n, .str x.d]), (8, .str o), (9, .cptr m.cells), (11, .cptr c.cells), (12, .bool b1), (14, .bool b2), (15, .bool (d.ms.any fun y => (oneM y).same (oneM m)))], mem := M }) := by
  refine loop_all (hcSt x o m c d b1 b2 (fun y => (oneM y).same (oneM m)) · M) d.ms.length _ (fun j hj => ?_) ?_ (by simp)
  · have g1 : (j : Int) < (d.ms.length : Int) := by omega
    have w1 : IntKind.i64.wrap ((j : Int) + 1) = ((j + 1 : Nat) : Int) := by rw [wrap_small] <;> omega
    have hjx : idxOk j d.ms.length = true := by simp [idxOk]; omega
    have hxm : (d.ms.map Mth.v)[j]? = some d.ms[j].v := by simp [hj]
    have hml : (d.ms.map Mth.v).length = d.ms.length := List.length_map ..
    have hS := ev_same d.ms[j] m (hd.mss _ (List.getElem_mem hj))
    unfold hcSt
    rw [List.take_succ_eq_append_getElem hj, List.any_append]
    simp only [List.any_cons, List.any_nil, Bool.or_false]
    generalize (d.ms.take j).any (fun y => (oneM y).same (oneM m)) = b at *
    generalize d.ms[j] = y at *
    generalize (oneM y).same (oneM m) = e at *
    unfold Cls.cells
    generalize d.ms.map Mth.v = X at *
    unfold Mth.v at hxm hS
    unfold Mth.cells at hxm hS ⊢
    cases b <;> simp [L5_0, g1, w1, hjx, hxm, hml, hS]
  · unfold hcSt
    rw [List.take_length]
    unfold Cls.cells
    simp [L5_0]

set_option maxHeartbeats 4000000 in
theorem ev_lawCalls (l : List Cls) (hw : ∀ c ∈ l, c.Wf) (hl : l.length ≤ maxLen) (x : Ins) : ∃ O A, ev tab prim 5 [.list 7 (l.map Cls.v) false, x.v] [[], []] = some (.bool true, [O, A]) := by
  obtain ⟨aO, aA, ha⟩ := ev_resAwake
  have hC := ev_alikeClasses l hw hl false
  have hi := ev_InstrSize x
  have m0 : ∀ O A, mm [[]] O A = [[], O, A] := fun _ _ => rfl
  by_cases h0 : clsSum 0 l ≤ 12000
  case neg =>
    refine ⟨[], [], ?_⟩
    rw [decide_eq_false h0] at hC
    unfold Ins.v
    generalize l.map Cls.v = X at *
    rw [ev_fn' tab prim (f := 5) rfl _ _ rfl]
    simp [hC, ha]
  rw [decide_eq_true h0] at hC
  by_cases hb : 300 < x.size
  · refine ⟨[], [], ?_⟩
    unfold Ins.v at hi ⊢
    generalize l.map Cls.v = X at *
    rw [ev_fn' tab prim (f := 5) rfl _ _ rfl]
    simp [hC, hi, hb, ha]
  have hgl := good_size hw h0
  obtain ⟨x1, y1, hO, hA, h1⟩ := ev_Classes l (fun _ => hgl) [[]] [] [] num_nil num_nil false
  simp only [List.nil_append] at hO hA h1
  cases he : classesE l with
  | some p =>
    obtain ⟨e, n⟩ := p
    have e0 : e ≠ 0 := classesE_code he
    rw [he] at h1
    dsimp only at h1
    simp only [m0] at h1
    refine ⟨x1, y1, ?_⟩
    unfold Ins.v at hi ⊢
    generalize l.map Cls.v = X at *
    have b1 : (e == 0) = false := by simpa using e0
    have b2 : (e != 0) = true := by simpa using e0
    rw [ev_fn' tab prim (f := 5) rfl _ _ rfl]
    simp [hC, hi, hb, ha, h1, e0, b1, b2]
  | none =>
    rw [he] at h1
    obtain ⟨k, t, q, hH, h1⟩ := h1
    have hlim := prog_lim hgl
    have hF := fine_of he
    have hP : ProgAt (.ptr 0 k 0) (prog l) x1 y1 := .held k t q rfl hH.any hlim
    obtain ⟨x2, y2, hO2, hA2, h2⟩ := at_Call hP hO hA [[]] x
    have hP2 := hP.more x2 y2
    have c1 := at_Class hP2 [[]] x.c
    refine ⟨x1 ++ x2, y1 ++ y2, ?_⟩
    cases hlk : lookF (prog l) x with
    | none =>
      rw [hlk] at h2
      unfold methodV mth0 at h2
      simp only [Option.map_none, Option.getD_none, Option.isSome_none] at h2
      unfold Mth.v Mth.cells at h2
      simp only [m0] at h1 h2
      unfold Ins.v at hi h2 ⊢
      generalize l.map Cls.v = X at *
      simp at h2
      rw [ev_fn' tab prim (f := 5) rfl _ _ rfl]
      simp [hC, hi, hb, ha, h1, h2]
    | some om =>
      obtain ⟨o, m⟩ := om
      obtain ⟨f1, ⟨d, f2, f3⟩, f4, f5, f6⟩ := look_fine hlk
      have c2 := at_Class hP2 [[]] o
      have hdm := (look_mem f2).1
      have hdw := prog_wf hgl d hdm
      have hL := hc_loop x o m ((look (prog l) x.c).getD Cls.zero) d (look (prog l) x.c).isSome true hdw (hlim.own d hdm).2.2.1 (mm [[]] (x1 ++ x2) (y1 ++ y2))
      have hany : (d.ms.any fun y => (oneM y).same (oneM m)) = true := by
        rw [List.any_eq_true]
        exact ⟨m, f3, same_self m⟩
      rw [hany] at hL
      have habs : m.a = true → m.s = false := hF.abs d hdm m f3
      unfold findV at c1 c2
      rw [f1] at c1 hL
      rw [f2] at c2
      simp only [Option.getD_some, Option.isSome_some] at c2
      rw [hlk] at h2
      unfold methodV at h2
      simp only [Option.map_some, Option.getD_some, Option.isSome_some] at h2
      unfold mayF at f6
      unfold hcSt at hL
      simp only [List.take_zero, List.any_nil, Int.natCast_zero] at hL
      generalize (look (prog l) x.c).getD Cls.zero = c at *
      clear habs
      have habs : m.a = true → m.s = false := hF.abs d hdm m f3
      clear hF hP hP2 hO hA hO2 hA2 hH hlk hlim hgl hdw hany he
      unfold Cls.cells Mth.cells at hL
      unfold Cls.v at c1 c2
      unfold Cls.cells at c1 c2
      unfold Mth.v at h2
      unfold Mth.cells at h2
      generalize m.code.map Ins.v = MC at *
      unfold Ins.v at hi h2 ⊢
      simp only [m0] at h1 h2 c1 c2 hL
      generalize l.map Cls.v = X at *
      have e1 : (m.n == x.n) = true := by rw [f4]; exact beq_self_eq_true _
      have e2 : (m.d == x.d) = true := by rw [f5]; exact beq_self_eq_true _
      have n1 : (m.n != x.n) = false := by rw [bne, e1]; rfl
      have n2 : (m.d != x.d) = false := by rw [bne, e2]; rfl
      unfold sInit at f6
      rw [ev_fn' tab prim (f := 5) rfl _ _ rfl]
      cases h32 : x.o == 32 with
      | true =>
        have o32 : x.o = 32 := by simpa using h32
        rw [h32] at f6
        simp only [cond_true] at f6
        have hma : m.a = false := by
          cases hq : m.a with
          | false => rfl
          | true => rw [habs hq] at f6; cases f6
        rw [f6, hma] at h2 hL
        rw [o32] at h2 hL hi ⊢
        simp [hC, hi, hb, ha, h1, h2, c1, c2, hL, n1, n2, e1, e2]
      | false =>
        rw [h32] at f6
        simp only [cond_false] at f6
        cases h33 : x.o == 33 with
        | true =>
          have o33 : x.o = 33 := by simpa using h33
          rw [h33] at f6
          simp only [cond_true, Bool.and_eq_true, Bool.not_eq_true'] at f6
          obtain ⟨g1, g2, g3⟩ := f6
          rw [← f4] at g3
          rw [g1, g2] at h2 hL
          rw [o33] at h2 hL hi ⊢
          cases g4 : m.n == [60, 105, 110, 105, 116, 62] with
          | false =>
            simp [hC, hi, hb, ha, h1, h2, c1, c2, hL, n1, n2, e1, e2, g4, bne]
          | true =>
            rw [bne, g4] at g3
            simp only [Bool.not_true, Bool.false_or] at g3
            simp [hC, hi, hb, ha, h1, h2, c1, c2, hL, n1, n2, e1, e2, g4, g3, bne]
        | false =>
          rw [h33] at f6
          simp only [cond_false] at f6
          cases h34 : x.o == 34 with
          | true =>
            have o34 : x.o = 34 := by simpa using h34
            rw [h34] at f6
            simp only [cond_true, Bool.and_eq_true, Bool.not_eq_true'] at f6
            obtain ⟨g1, g2⟩ := f6
            rw [g1] at h2 hL
            rw [g2] at c1 hL
            rw [o34] at h2 hL hi ⊢
            simp [hC, hi, hb, ha, h1, h2, c1, c2, hL, n1, n2, e1, e2]
          | false =>
            rw [h34] at f6
            simp only [cond_false] at f6
            cases h35 : x.o == 35 with
            | true =>
              have o35 : x.o = 35 := by simpa using h35
              rw [h35] at f6
              simp only [cond_true, Bool.and_eq_true, Bool.not_eq_true'] at f6
              obtain ⟨g1, g2⟩ := f6
              rw [g1] at h2 hL
              rw [g2] at c1 hL
              rw [o35] at h2 hL hi ⊢
              simp [hC, hi, hb, ha, h1, h2, c1, c2, hL, n1, n2, e1, e2]
            | false => rw [h35] at f6; cases f6
end Go.Proofs.YtpajgenngpjbaaaGreat.Ev

/- Whether a method may be, as the document tells it: its loops. -/
import Derived.Test.YtgmlanhhjmhmmaaGm
namespace Go.Proofs.Ytgmlanhhjmhmmaa.Ev
open Go

theorem rmLoop0 (m : Mth) (hw : m.Wf) (hm : m.Small) : cv tab prim (.loop L42_0) { env := [(1, .cptr m.cells), (7, .int .i64 0)], mem := [[], [], []] } =
    some (bif errC m == 0 then (.exit 0, { env := [(1, .cptr m.cells)], mem := [[], [], []] }) else retE (errC m)) := by
  refine loop_first (fun x => chkI x m.code.length m.lo) m.code (fun i => { env := [(1, .cptr m.cells), (7, .int .i64 i)], mem := [[], [], []] }) _ retE (fun i hi hz => ?_) (fun i hi hz => ?_) ?_ (by simp) (by simp [retE])
  · have a1 : (i : Int) < (m.code.length : Int) := by omega
    have hs := wrap_succ hi hw.code
    have hx : (m.code.map Ins.v)[i]? = some (Ins.v m.code[i]) := by simp [hi]
    obtain ⟨b1, b2, b3⟩ := hm.ins _ (List.getElem_mem hi)
    have hC := ev_RefCheck m.code[i] m.code.length m.lo b1 b2 b3
    rw [hz] at hC
    simp only [Ins.v] at hC
    simp [L42_0, Mth.cells, a1, hs, idxOk, hx, Ins.v, hC]
  · have a1 : (i : Int) < (m.code.length : Int) := by omega
    have hx : (m.code.map Ins.v)[i]? = some (Ins.v m.code[i]) := by simp [hi]
    obtain ⟨b1, b2, b3⟩ := hm.ins _ (List.getElem_mem hi)
    have hC := ev_RefCheck m.code[i] m.code.length m.lo b1 b2 b3
    generalize chkI m.code[i] m.code.length m.lo = e at hz hC ⊢
    have hz' : (e == 0) = false := by simp [hz]
    simp only [Ins.v] at hC
    simp [L42_0, retE, Mth.cells, a1, idxOk, hx, Ins.v, hC, hz', bne]
  · simp [L42_0, Mth.cells]

set_option maxHeartbeats 16000000 in
theorem rmLoop1 (m : Mth) (hw : m.Wf) (hm : m.Small) : cv tab prim (.loop L42_1) { env := [(1, .cptr m.cells), (9, .int .i64 0)], mem := [[], [], []] } =
    some (bif errH m == 0 then (.exit 2, { env := [], mem := [[], [], []] }) else retE (errH m)) := by
  refine loop_first (fun h => hdl h m.code.length) m.hs (fun i => { env := [(1, .cptr m.cells), (9, .int .i64 i)], mem := [[], [], []] }) _ retE (fun i hi hz => ?_) (fun i hi hz => ?_) ?_ (by simp) (by simp [retE])
  · have a1 : (i : Int) < (m.hs.length : Int) := by omega
    have hs := wrap_succ hi hw.hs
    have hx : (m.hs.map Hnd.v)[i]? = some (Hnd.v m.hs[i]) := by simp [hi]
    have hN := ev40 m.hs[i].c (by have := hm.hnd _ (List.getElem_mem hi); omega)
    generalize m.hs[i] = h at hz hx hN
    have q : ¬ h.f < 0 ∧ ¬ h.t ≤ h.f ∧ ¬ (m.code.length : Int) < h.t ∧ ¬ h.a < 0 ∧ ¬ (m.code.length : Int) ≤ h.a ∧ (h.c == [] || nameOk h.c) = true := by
      unfold hdl at hz
      cases hb : decide (h.f < 0) || (decide (h.t ≤ h.f) || (decide ((m.code.length : Int) < h.t) || !(decide (0 ≤ h.a) && decide (h.a ≤ m.code.length - 1))))
      · rw [hb, cond_false] at hz
        simp at hb
        refine ⟨by omega, by omega, by omega, by omega, by omega, ?_⟩
        cases hc : h.c == [] <;> cases hn : nameOk h.c <;> rw [hc, hn] at hz <;> simp_all
      · rw [hb, cond_true] at hz; omega
    obtain ⟨q1, q2, q3, q4, q5, q6⟩ := q
    cases hc : h.c == []
    · rw [hc, Bool.false_or] at q6
      rw [q6] at hN
      simp [L42_1, Mth.cells, a1, hs, idxOk, hx, Hnd.v, q1, q2, q3, q4, q5, hc, hN]
    · simp [L42_1, Mth.cells, a1, hs, idxOk, hx, Hnd.v, q1, q2, q3, q4, q5, hc]
  · have a1 : (i : Int) < (m.hs.length : Int) := by omega
    have hx : (m.hs.map Hnd.v)[i]? = some (Hnd.v m.hs[i]) := by simp [hi]
    have hN := ev40 m.hs[i].c (by have := hm.hnd _ (List.getElem_mem hi); omega)
    generalize m.hs[i] = h at hz hx hN ⊢
    unfold hdl at hz ⊢
    by_cases p1 : h.f < 0
    · simp [L42_1, retE, Mth.cells, a1, idxOk, hx, Hnd.v, p1]
    by_cases p2 : h.t ≤ h.f
    · simp [L42_1, retE, Mth.cells, a1, idxOk, hx, Hnd.v, p1, p2]
    by_cases p3 : (m.code.length : Int) < h.t
    · simp [L42_1, retE, Mth.cells, a1, idxOk, hx, Hnd.v, p1, p2, p3]
    by_cases p4 : h.a < 0
    · have p4' : ¬ 0 ≤ h.a := by omega
      simp [L42_1, retE, Mth.cells, a1, idxOk, hx, Hnd.v, p1, p2, p3, p4, p4']
    have p4' : 0 ≤ h.a := by omega
    by_cases p5 : (m.code.length : Int) ≤ h.a
    · have p5' : ¬ h.a ≤ (m.code.length : Int) - 1 := by omega
      simp [L42_1, retE, Mth.cells, a1, idxOk, hx, Hnd.v, p1, p2, p3, p4, p4', p5, p5']
    have p5' : h.a ≤ (m.code.length : Int) - 1 := by omega
    cases hc : h.c == []
    · cases hn : nameOk h.c
      · rw [hn] at hN
        simp [L42_1, retE, Mth.cells, a1, idxOk, hx, Hnd.v, p1, p2, p3, p4, p4', p5, p5', hc, hN]
      · exfalso; apply hz; simp [p1, p2, p3, p4', p5', hc, hn]
    · exfalso; apply hz; simp [p1, p2, p3, p4', p5', hc]
  · simp [L42_1, Mth.cells]

end Go.Proofs.Ytgmlanhhjmhmmaa.Ev

/- Whether a method may be, as the document tells it: all of it. -/
import Derived.Test.YtgmlanhhjmhmmaaGreatGm
import Derived.Test.YtgmlanhhjmhmmaaGreatGj
namespace Go.Proofs.YtgmlanhhjmhmmaaGreat.Ev
open Go

/-! Whether a method may be, as the document tells it: its loops. -/
theorem rmLoop0 (m : Mth) (hw : m.Wf) (hm : m.Small) : cv tab prim (.loop L20_0) { env := [(1, .cptr m.cells), (7, .int .i64 0)], mem := [[], [], []] } =
    some (bif errC m == 0 then (.exit 0, { env := [(1, .cptr m.cells)], mem := [[], [], []] }) else retE (errC m)) := by
  refine loop_first (fun x => chkI x m.code.length m.lo) m.code (fun i => { env := [(1, .cptr m.cells), (7, .int .i64 i)], mem := [[], [], []] }) _ retE (fun i hi hz => ?_) (fun i hi hz => ?_) ?_ (by simp) (by simp [retE])
  · have a1 : (i : Int) < (m.code.length : Int) := by omega
    have hs := wrap_succ hi hw.code
    have hx : (m.code.map Ins.v)[i]? = some (Ins.v m.code[i]) := by simp [hi]
    obtain ⟨b1, b2, b3⟩ := hm.ins _ (List.getElem_mem hi)
    have hC := ev_RefCheck m.code[i] m.code.length m.lo b1 b2 b3
    rw [hz] at hC
    simp only [Ins.v] at hC
    simp [L20_0, Mth.cells, a1, hs, idxOk, hx, Ins.v, hC]
  · have a1 : (i : Int) < (m.code.length : Int) := by omega
    have hx : (m.code.map Ins.v)[i]? = some (Ins.v m.code[i]) := by simp [hi]
    obtain ⟨b1, b2, b3⟩ := hm.ins _ (List.getElem_mem hi)
    have hC := ev_RefCheck m.code[i] m.code.length m.lo b1 b2 b3
    generalize chkI m.code[i] m.code.length m.lo = e at hz hC ⊢
    have hz' : (e == 0) = false := by simp [hz]
    simp only [Ins.v] at hC
    simp [L20_0, retE, Mth.cells, a1, idxOk, hx, Ins.v, hC, hz', bne]
  · simp [L20_0, Mth.cells]

set_option maxHeartbeats 16000000 in
theorem rmLoop1 (m : Mth) (hw : m.Wf) (hm : m.Small) : cv tab prim (.loop L20_1) { env := [(1, .cptr m.cells), (9, .int .i64 0)], mem := [[], [], []] } =
    some (bif errH m == 0 then (.exit 2, { env := [], mem := [[], [], []] }) else retE (errH m)) := by
  refine loop_first (fun h => hdl h m.code.length) m.hs (fun i => { env := [(1, .cptr m.cells), (9, .int .i64 i)], mem := [[], [], []] }) _ retE (fun i hi hz => ?_) (fun i hi hz => ?_) ?_ (by simp) (by simp [retE])
  · have a1 : (i : Int) < (m.hs.length : Int) := by omega
    have hs := wrap_succ hi hw.hs
    have hx : (m.hs.map Hnd.v)[i]? = some (Hnd.v m.hs[i]) := by simp [hi]
    have hN := ev18 m.hs[i].c (by have := hm.hnd _ (List.getElem_mem hi); omega)
    generalize m.hs[i] = h at hz hx hN
    have q : ¬ h.f < 0 ∧ ¬ h.t ≤ h.f ∧ ¬ (m.code.length : Int) < h.t ∧ ¬ h.a < 0 ∧ ¬ (m.code.length : Int) ≤ h.a ∧ (h.c == [] || nameOk h.c) = true := by
      unfold hdl at hz
      cases hb : decide (h.f < 0) || (decide (h.t ≤ h.f) || (decide ((m.code.length : Int) < h.t) || !(decide (0 ≤ h.a) && decide (h.a ≤ m.code.length - 1))))
      · rw [hb, cond_false] at hz
        simp at hb
        refine ⟨by omega, by omega, by omega, by omega, by omega, ?_⟩
        cases hc : h.c == [] <;> cases hn : nameOk h.c <;> rw [hc, hn] at hz <;> simp_all
      · rw [hb, cond_true] at hz; omega
    obtain ⟨q1, q2, q3, q4, q5, q6⟩ := q
    cases hc : h.c == []
    · rw [hc, Bool.false_or] at q6
      rw [q6] at hN
      simp [L20_1, Mth.cells, a1, hs, idxOk, hx, Hnd.v, q1, q2, q3, q4, q5, hc, hN]
    · simp [L20_1, Mth.cells, a1, hs, idxOk, hx, Hnd.v, q1, q2, q3, q4, q5, hc]
  · have a1 : (i : Int) < (m.hs.length : Int) := by omega
    have hx : (m.hs.map Hnd.v)[i]? = some (Hnd.v m.hs[i]) := by simp [hi]
    have hN := ev18 m.hs[i].c (by have := hm.hnd _ (List.getElem_mem hi); omega)
    generalize m.hs[i] = h at hz hx hN ⊢
    unfold hdl at hz ⊢
    by_cases p1 : h.f < 0
    · simp [L20_1, retE, Mth.cells, a1, idxOk, hx, Hnd.v, p1]
    by_cases p2 : h.t ≤ h.f
    · simp [L20_1, retE, Mth.cells, a1, idxOk, hx, Hnd.v, p1, p2]
    by_cases p3 : (m.code.length : Int) < h.t
    · simp [L20_1, retE, Mth.cells, a1, idxOk, hx, Hnd.v, p1, p2, p3]
    by_cases p4 : h.a < 0
    · have p4' : ¬ 0 ≤ h.a := by omega
      simp [L20_1, retE, Mth.cells, a1, idxOk, hx, Hnd.v, p1, p2, p3, p4, p4']
    have p4' : 0 ≤ h.a := by omega
    by_cases p5 : (m.code.length : Int) ≤ h.a
    · have p5' : ¬ h.a ≤ (m.code.length : Int) - 1 := by omega
      simp [L20_1, retE, Mth.cells, a1, idxOk, hx, Hnd.v, p1, p2, p3, p4, p4', p5, p5']
    have p5' : h.a ≤ (m.code.length : Int) - 1 := by omega
    cases hc : h.c == []
    · cases hn : nameOk h.c
      · rw [hn] at hN
        simp [L20_1, retE, Mth.cells, a1, idxOk, hx, Hnd.v, p1, p2, p3, p4, p4', p5, p5', hc, hN]
      · exfalso; apply hz; simp [p1, p2, p3, p4', p5', hc, hn]
    · exfalso; apply hz; simp [p1, p2, p3, p4', p5', hc]
  · simp [L20_1, Mth.cells]

/-! Whether a method may be, as the document tells it. -/
set_option maxHeartbeats 64000000 in
theorem ev_checkMethod_bad (m : Mth) (hm : m.Small) (hb : nmdM m = false) : ev tab prim 20 [m.v] [[], []] = some (.int .i64 6, [[], []]) := by
  have hM := ev48 m.d (by have := hm.d; omega)
  rw [methV_eq] at hM
  have hN := ev49 m.n (by have := hm.n; omega)
  unfold nmdM clinitN initN at hb
  unfold Mth.v Mth.cells
  rw [ev_fn' tab prim (f := 20) rfl _ _ rfl]
  have hk : methOk m.d = true ∨ methOk m.d = false := by cases methOk m.d <;> simp
  generalize mnameOk m.n = nn at *
  cases nn
  · simp [hM, hN]
  rcases hk with h | h <;> rw [h] at hM hb
  · cases e1 : m.n == [60, 99, 108, 105, 110, 105, 116, 62] <;> rw [e1] at hb
    · cases e2 : m.n == [60, 105, 110, 105, 116, 62] <;> rw [e2] at hb
      · simp at hb
      · cases e3 : m.s
        · cases e4 : m.a
          · cases e5 : mres m.d == [86]
            · simp [hM, hN, e1, e2, e5]
            · rw [e3, e4, e5] at hb; simp at hb
          · simp [hM, hN, e1, e2]
        · simp [hM, hN, e1, e2]
    · cases e3 : m.s
      · simp [hM, hN, e1]
      · cases e4 : m.d == [40, 41, 86]
        · simp [hM, hN, e1, e4]
        · rw [e3, e4] at hb; simp at hb
  · simp [hM, hN]

/-! Whether a method may be, as the document tells it: all of it. -/
theorem limM_cases (m : Mth) : (m.st < 0 ∧ limM m = false) ∨ (¬ m.st < 0 ∧ 20 < m.st ∧ limM m = false) ∨ (¬ m.st < 0 ∧ ¬ 20 < m.st ∧ m.lo < 0 ∧ limM m = false) ∨ (¬ m.st < 0 ∧ ¬ 20 < m.st ∧ ¬ m.lo < 0 ∧ 20 < m.lo ∧ limM m = false) ∨
    (¬ m.st < 0 ∧ ¬ 20 < m.st ∧ ¬ m.lo < 0 ∧ ¬ 20 < m.lo ∧ 200 < (m.code.length : Int) ∧ limM m = false) ∨ (¬ m.st < 0 ∧ ¬ 20 < m.st ∧ ¬ m.lo < 0 ∧ ¬ 20 < m.lo ∧ ¬ 200 < (m.code.length : Int) ∧ 20 < (m.hs.length : Int) ∧ limM m = false) ∨
    (¬ m.st < 0 ∧ ¬ 20 < m.st ∧ ¬ m.lo < 0 ∧ ¬ 20 < m.lo ∧ ¬ 200 < (m.code.length : Int) ∧ ¬ 20 < (m.hs.length : Int) ∧ limM m = true) := by
  have h : limM m = decide (0 ≤ m.st ∧ m.st ≤ 20 ∧ 0 ≤ m.lo ∧ m.lo ≤ 20 ∧ (m.code.length : Int) ≤ 200 ∧ (m.hs.length : Int) ≤ 20) := by
    rw [Bool.eq_iff_iff]; simp [limM, and_assoc]
  rw [h]
  simp only [decide_eq_true_eq, decide_eq_false_iff_not]
  omega

set_option maxHeartbeats 64000000 in
theorem ev_checkMethod_ok (m : Mth) (hw : m.Wf) (hm : m.Small) (hb : nmdM m = true) : ev tab prim 20 [m.v] [[], []] = some (.int .i64 (errM m), [[], []]) := by
  have hM := ev48 m.d (by have := hm.d; omega)
  rw [methV_eq] at hM
  have hN := ev49 m.n (by have := hm.n; omega)
  have l0 := rmLoop0 m hw hm
  have l1 := rmLoop1 m hw hm
  have hl := mps_len m.d
  have hws : IntKind.i64.wrap (((mps m.d).length : Int) + 1) = ((mps m.d).length : Int) + 1 := wrap_small (by omega) (by omega)
  have hls : leastM m = (mps m.d).length + (bif m.s then 0 else 1) := rfl
  have hlm := limM_cases m
  unfold errM bareM
  rw [hb, hls]
  unfold nmdM clinitN initN at hb
  unfold Mth.v Mth.cells
  unfold Mth.cells retE at l0 l1
  rw [ev_fn' tab prim (f := 20) rfl _ _ rfl]
  have hk : methOk m.d = true := by cases h : methOk m.d <;> rw [h] at hb <;> simp at hb ⊢
  have hn : mnameOk m.n = true := by cases h : mnameOk m.n <;> rw [h] at hb <;> simp at hb ⊢
  rw [hk] at hM
  rw [hn] at hN
  rw [hk, hn] at hb
  clear hk hn
  have r3 := (mname_rel m.n).2.2
  unfold initN clinitN at r3
  have names : ((m.n == [60, 99, 108, 105, 110, 105, 116, 62]) = true ∧ (m.n == [60, 105, 110, 105, 116, 62]) = false ∧ m.s = true ∧ (m.d == [40, 41, 86]) = true) ∨
      ((m.n == [60, 99, 108, 105, 110, 105, 116, 62]) = false ∧ (m.n == [60, 105, 110, 105, 116, 62]) = true ∧ m.s = false ∧ m.a = false ∧ (mres m.d == [86]) = true) ∨
      ((m.n == [60, 99, 108, 105, 110, 105, 116, 62]) = false ∧ (m.n == [60, 105, 110, 105, 116, 62]) = false) := by
    cases h1 : m.n == [60, 99, 108, 105, 110, 105, 116, 62] <;> cases h2 : m.n == [60, 105, 110, 105, 116, 62] <;> rw [h1] at hb r3 <;> rw [h2] at r3 <;> (try rw [h2] at hb) <;> simp at hb r3 <;> simp_all
  clear hb
  generalize m.a = a at *
  generalize m.s = s at *
  generalize limM m = lm at *
  generalize errC m = ec at *
  generalize errH m = eh at *
  rcases hlm with ⟨p1, rfl⟩ | ⟨p1, p2, rfl⟩ | ⟨p1, p2, p3, rfl⟩ | ⟨p1, p2, p3, p4, rfl⟩ | ⟨p1, p2, p3, p4, p5, rfl⟩ | ⟨p1, p2, p3, p4, p5, p6, rfl⟩ | ⟨p1, p2, p3, p4, p5, p6, rfl⟩
  · rcases names with ⟨n1, n2, rfl, n3⟩ | ⟨n1, n2, rfl, rfl, n3⟩ | ⟨n1, n2⟩ <;> simp [hM, hN, *]
  · rcases names with ⟨n1, n2, rfl, n3⟩ | ⟨n1, n2, rfl, rfl, n3⟩ | ⟨n1, n2⟩ <;> simp [hM, hN, *]
  · rcases names with ⟨n1, n2, rfl, n3⟩ | ⟨n1, n2, rfl, rfl, n3⟩ | ⟨n1, n2⟩ <;> simp [hM, hN, *]
  · rcases names with ⟨n1, n2, rfl, n3⟩ | ⟨n1, n2, rfl, rfl, n3⟩ | ⟨n1, n2⟩ <;> simp [hM, hN, *]
  · rcases names with ⟨n1, n2, rfl, n3⟩ | ⟨n1, n2, rfl, rfl, n3⟩ | ⟨n1, n2⟩ <;> simp [hM, hN, *]
  · rcases names with ⟨n1, n2, rfl, n3⟩ | ⟨n1, n2, rfl, rfl, n3⟩ | ⟨n1, n2⟩ <;> simp [hM, hN, *]
  · have z1 : (m.st == 0) = true ∨ (m.st == 0) = false := by cases (m.st == 0) <;> simp
    have z2 : (m.lo == 0) = true ∨ (m.lo == 0) = false := by cases (m.lo == 0) <;> simp
    have z3 : m.code.length = 0 ∨ (¬ m.code = [] ∧ 0 < m.code.length ∧ 0 < (m.code.length : Int) ∧ ((m.code.length : Int) == 0) = false) := by
      rcases Nat.eq_zero_or_pos m.code.length with h | h
      · exact .inl h
      · exact .inr ⟨fun e => by rw [e] at h; simp at h, h, by omega, by rw [beq_eq_false_iff_ne]; omega⟩
    have z4 : m.hs.length = 0 ∨ (¬ m.hs = [] ∧ 0 < m.hs.length ∧ 0 < (m.hs.length : Int) ∧ ((m.hs.length : Int) == 0) = false) := by
      rcases Nat.eq_zero_or_pos m.hs.length with h | h
      · exact .inl h
      · exact .inr ⟨fun e => by rw [e] at h; simp at h, h, by omega, by rw [beq_eq_false_iff_ne]; omega⟩
    rcases names with ⟨n1, n2, rfl, n3⟩ | ⟨n1, n2, rfl, rfl, n3⟩ | ⟨n1, n2⟩
    · cases a
      · rcases z3 with c | ⟨c1, c2, c3, c4⟩
        · simp [hM, hN, hws, *]
        · by_cases hq : m.lo < ((mps m.d).length : Int)
          · simp [hM, hN, hws, *]
          · cases k0 : ec == 0
            · rw [k0] at l0
              simp [hM, hN, hws, bne, *]
            · rw [k0] at l0
              cases k1 : eh == 0
              · rw [k1] at l1
                simp [hM, hN, hws, bne, *]
              · rw [k1] at l1
                have k2 : eh = 0 := by simpa using k1
                simp [hM, hN, hws, bne, *]
      · rcases z1 with z | z <;> rcases z2 with y | y <;> rcases z3 with c | ⟨c1, c2, c3, c4⟩ <;> rcases z4 with d | ⟨d1, d2, d3, d4⟩ <;> simp [hM, hN, bne, *]
    · rcases z3 with c | ⟨c1, c2, c3, c4⟩
      · simp [hM, hN, hws, *]
      · by_cases hq : m.lo < ((mps m.d).length : Int) + 1
        · simp [hM, hN, hws, *]
        · cases k0 : ec == 0
          · rw [k0] at l0
            simp [hM, hN, hws, bne, *]
          · rw [k0] at l0
            cases k1 : eh == 0
            · rw [k1] at l1
              simp [hM, hN, hws, bne, *]
            · rw [k1] at l1
              have k2 : eh = 0 := by simpa using k1
              simp [hM, hN, hws, bne, *]
    · cases s <;> cases a
      · rcases z3 with c | ⟨c1, c2, c3, c4⟩
        · simp [hM, hN, hws, *]
        · by_cases hq : m.lo < ((mps m.d).length : Int) + 1
          · simp [hM, hN, hws, *]
          · cases k0 : ec == 0
            · rw [k0] at l0
              simp [hM, hN, hws, bne, *]
            · rw [k0] at l0
              cases k1 : eh == 0
              · rw [k1] at l1
                simp [hM, hN, hws, bne, *]
              · rw [k1] at l1
                have k2 : eh = 0 := by simpa using k1
                simp [hM, hN, hws, bne, *]
      · rcases z1 with z | z <;> rcases z2 with y | y <;> rcases z3 with c | ⟨c1, c2, c3, c4⟩ <;> rcases z4 with d | ⟨d1, d2, d3, d4⟩ <;> simp [hM, hN, bne, *]
      · rcases z3 with c | ⟨c1, c2, c3, c4⟩
        · simp [hM, hN, hws, *]
        · by_cases hq : m.lo < ((mps m.d).length : Int)
          · simp [hM, hN, hws, *]
          · cases k0 : ec == 0
            · rw [k0] at l0
              simp [hM, hN, hws, bne, *]
            · rw [k0] at l0
              cases k1 : eh == 0
              · rw [k1] at l1
                simp [hM, hN, hws, bne, *]
              · rw [k1] at l1
                have k2 : eh = 0 := by simpa using k1
                simp [hM, hN, hws, bne, *]
      · rcases z1 with z | z <;> rcases z2 with y | y <;> rcases z3 with c | ⟨c1, c2, c3, c4⟩ <;> rcases z4 with d | ⟨d1, d2, d3, d4⟩ <;> simp [hM, hN, bne, *]

end Go.Proofs.YtgmlanhhjmhmmaaGreat.Ev

/- Whether a method may be, as the document tells it: all of it. -/
import Derived.Test.YtgmlanhhjmhmmaaGo
namespace Go.Proofs.Ytgmlanhhjmhmmaa.Ev
open Go

theorem limM_cases (m : Mth) : (m.st < 0 ∧ limM m = false) ∨ (¬ m.st < 0 ∧ 20 < m.st ∧ limM m = false) ∨ (¬ m.st < 0 ∧ ¬ 20 < m.st ∧ m.lo < 0 ∧ limM m = false) ∨ (¬ m.st < 0 ∧ ¬ 20 < m.st ∧ ¬ m.lo < 0 ∧ 20 < m.lo ∧ limM m = false) ∨
    (¬ m.st < 0 ∧ ¬ 20 < m.st ∧ ¬ m.lo < 0 ∧ ¬ 20 < m.lo ∧ 200 < (m.code.length : Int) ∧ limM m = false) ∨ (¬ m.st < 0 ∧ ¬ 20 < m.st ∧ ¬ m.lo < 0 ∧ ¬ 20 < m.lo ∧ ¬ 200 < (m.code.length : Int) ∧ 20 < (m.hs.length : Int) ∧ limM m = false) ∨
    (¬ m.st < 0 ∧ ¬ 20 < m.st ∧ ¬ m.lo < 0 ∧ ¬ 20 < m.lo ∧ ¬ 200 < (m.code.length : Int) ∧ ¬ 20 < (m.hs.length : Int) ∧ limM m = true) := by
  have h : limM m = decide (0 ≤ m.st ∧ m.st ≤ 20 ∧ 0 ≤ m.lo ∧ m.lo ≤ 20 ∧ (m.code.length : Int) ≤ 200 ∧ (m.hs.length : Int) ≤ 20) := by
    rw [Bool.eq_iff_iff]; simp [limM, and_assoc]
  rw [h]
  simp only [decide_eq_true_eq, decide_eq_false_iff_not]
  omega

set_option maxHeartbeats 64000000 in
theorem ev_checkMethod_ok (m : Mth) (hw : m.Wf) (hm : m.Small) (hb : nmdM m = true) : ev tab prim 42 [m.v] [[], []] = some (.int .i64 (errM m), [[], []]) := by
  have hM := ev66 m.d (by have := hm.d; omega)
  rw [methV_eq] at hM
  have hN := ev67 m.n (by have := hm.n; omega)
  have l0 := rmLoop0 m hw hm
  have l1 := rmLoop1 m hw hm
  have hl := mps_len m.d
  have hws : IntKind.i64.wrap (((mps m.d).length : Int) + 1) = ((mps m.d).length : Int) + 1 := wrap_small (by omega) (by omega)
  have hls : leastM m = (mps m.d).length + (bif m.s then 0 else 1) := rfl
  have hlm := limM_cases m
  unfold errM bareM
  rw [hb, hls]
  unfold nmdM clinitN initN at hb
  unfold Mth.v Mth.cells
  unfold Mth.cells retE at l0 l1
  rw [ev_fn' tab prim (f := 42) rfl _ _ rfl]
  have hk : methOk m.d = true := by cases h : methOk m.d <;> rw [h] at hb <;> simp at hb ⊢
  have hn : mnameOk m.n = true := by cases h : mnameOk m.n <;> rw [h] at hb <;> simp at hb ⊢
  rw [hk] at hM
  rw [hn] at hN
  rw [hk, hn] at hb
  clear hk hn
  have r3 := (mname_rel m.n).2.2
  unfold initN clinitN at r3
  have names : ((m.n == [60, 99, 108, 105, 110, 105, 116, 62]) = true ∧ (m.n == [60, 105, 110, 105, 116, 62]) = false ∧ m.s = true ∧ (m.d == [40, 41, 86]) = true) ∨
      ((m.n == [60, 99, 108, 105, 110, 105, 116, 62]) = false ∧ (m.n == [60, 105, 110, 105, 116, 62]) = true ∧ m.s = false ∧ m.a = false ∧ (mres m.d == [86]) = true) ∨
      ((m.n == [60, 99, 108, 105, 110, 105, 116, 62]) = false ∧ (m.n == [60, 105, 110, 105, 116, 62]) = false) := by
    cases h1 : m.n == [60, 99, 108, 105, 110, 105, 116, 62] <;> cases h2 : m.n == [60, 105, 110, 105, 116, 62] <;> rw [h1] at hb r3 <;> rw [h2] at r3 <;> (try rw [h2] at hb) <;> simp at hb r3 <;> simp_all
  clear hb
  generalize m.a = a at *
  generalize m.s = s at *
  generalize limM m = lm at *
  generalize errC m = ec at *
  generalize errH m = eh at *
  rcases hlm with ⟨p1, rfl⟩ | ⟨p1, p2, rfl⟩ | ⟨p1, p2, p3, rfl⟩ | ⟨p1, p2, p3, p4, rfl⟩ | ⟨p1, p2, p3, p4, p5, rfl⟩ | ⟨p1, p2, p3, p4, p5, p6, rfl⟩ | ⟨p1, p2, p3, p4, p5, p6, rfl⟩
  · rcases names with ⟨n1, n2, rfl, n3⟩ | ⟨n1, n2, rfl, rfl, n3⟩ | ⟨n1, n2⟩ <;> simp [hM, hN, *]
  · rcases names with ⟨n1, n2, rfl, n3⟩ | ⟨n1, n2, rfl, rfl, n3⟩ | ⟨n1, n2⟩ <;> simp [hM, hN, *]
  · rcases names with ⟨n1, n2, rfl, n3⟩ | ⟨n1, n2, rfl, rfl, n3⟩ | ⟨n1, n2⟩ <;> simp [hM, hN, *]
  · rcases names with ⟨n1, n2, rfl, n3⟩ | ⟨n1, n2, rfl, rfl, n3⟩ | ⟨n1, n2⟩ <;> simp [hM, hN, *]
  · rcases names with ⟨n1, n2, rfl, n3⟩ | ⟨n1, n2, rfl, rfl, n3⟩ | ⟨n1, n2⟩ <;> simp [hM, hN, *]
  · rcases names with ⟨n1, n2, rfl, n3⟩ | ⟨n1, n2, rfl, rfl, n3⟩ | ⟨n1, n2⟩ <;> simp [hM, hN, *]
  · have z1 : (m.st == 0) = true ∨ (m.st == 0) = false := by cases (m.st == 0) <;> simp
    have z2 : (m.lo == 0) = true ∨ (m.lo == 0) = false := by cases (m.lo == 0) <;> simp
    have z3 : m.code.length = 0 ∨ (¬ m.code = [] ∧ 0 < m.code.length ∧ 0 < (m.code.length : Int) ∧ ((m.code.length : Int) == 0) = false) := by
      rcases Nat.eq_zero_or_pos m.code.length with h | h
      · exact .inl h
      · exact .inr ⟨fun e => by rw [e] at h; simp at h, h, by omega, by rw [beq_eq_false_iff_ne]; omega⟩
    have z4 : m.hs.length = 0 ∨ (¬ m.hs = [] ∧ 0 < m.hs.length ∧ 0 < (m.hs.length : Int) ∧ ((m.hs.length : Int) == 0) = false) := by
      rcases Nat.eq_zero_or_pos m.hs.length with h | h
      · exact .inl h
      · exact .inr ⟨fun e => by rw [e] at h; simp at h, h, by omega, by rw [beq_eq_false_iff_ne]; omega⟩
    rcases names with ⟨n1, n2, rfl, n3⟩ | ⟨n1, n2, rfl, rfl, n3⟩ | ⟨n1, n2⟩
    · cases a
      · rcases z3 with c | ⟨c1, c2, c3, c4⟩
        · simp [hM, hN, hws, *]
        · by_cases hq : m.lo < ((mps m.d).length : Int)
          · simp [hM, hN, hws, *]
          · cases k0 : ec == 0
            · rw [k0] at l0
              simp [hM, hN, hws, bne, *]
            · rw [k0] at l0
              cases k1 : eh == 0
              · rw [k1] at l1
                simp [hM, hN, hws, bne, *]
              · rw [k1] at l1
                have k2 : eh = 0 := by simpa using k1
                simp [hM, hN, hws, bne, *]
      · rcases z1 with z | z <;> rcases z2 with y | y <;> rcases z3 with c | ⟨c1, c2, c3, c4⟩ <;> rcases z4 with d | ⟨d1, d2, d3, d4⟩ <;> simp [hM, hN, bne, *]
    · rcases z3 with c | ⟨c1, c2, c3, c4⟩
      · simp [hM, hN, hws, *]
      · by_cases hq : m.lo < ((mps m.d).length : Int) + 1
        · simp [hM, hN, hws, *]
        · cases k0 : ec == 0
          · rw [k0] at l0
            simp [hM, hN, hws, bne, *]
          · rw [k0] at l0
            cases k1 : eh == 0
            · rw [k1] at l1
              simp [hM, hN, hws, bne, *]
            · rw [k1] at l1
              have k2 : eh = 0 := by simpa using k1
              simp [hM, hN, hws, bne, *]
    · cases s <;> cases a
      · rcases z3 with c | ⟨c1, c2, c3, c4⟩
        · simp [hM, hN, hws, *]
        · by_cases hq : m.lo < ((mps m.d).length : Int) + 1
          · simp [hM, hN, hws, *]
          · cases k0 : ec == 0
            · rw [k0] at l0
              simp [hM, hN, hws, bne, *]
            · rw [k0] at l0
              cases k1 : eh == 0
              · rw [k1] at l1
                simp [hM, hN, hws, bne, *]
              · rw [k1] at l1
                have k2 : eh = 0 := by simpa using k1
                simp [hM, hN, hws, bne, *]
      · rcases z1 with z | z <;> rcases z2 with y | y <;> rcases z3 with c | ⟨c1, c2, c3, c4⟩ <;> rcases z4 with d | ⟨d1, d2, d3, d4⟩ <;> simp [hM, hN, bne, *]
      · rcases z3 with c | ⟨c1, c2, c3, c4⟩
        · simp [hM, hN, hws, *]
        · by_cases hq : m.lo < ((mps m.d).length : Int)
          · simp [hM, hN, hws, *]
          · cases k0 : ec == 0
            · rw [k0] at l0
              simp [hM, hN, hws, bne, *]
            · rw [k0] at l0
              cases k1 : eh == 0
              · rw [k1] at l1
                simp [hM, hN, hws, bne, *]
              · rw [k1] at l1
                have k2 : eh = 0 := by simpa using k1
                simp [hM, hN, hws, bne, *]
      · rcases z1 with z | z <;> rcases z2 with y | y <;> rcases z3 with c | ⟨c1, c2, c3, c4⟩ <;> rcases z4 with d | ⟨d1, d2, d3, d4⟩ <;> simp [hM, hN, bne, *]

end Go.Proofs.Ytgmlanhhjmhmmaa.Ev

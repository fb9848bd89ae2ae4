/- Whether an instruction may be, as the document tells it. -/
import Derived.Test.YtgmlanhhjmhmmaaGreatGi
namespace Go.Proofs.YtgmlanhhjmhmmaaGreat.Ev
open Go

theorem ev_int32s (n : Int) : ev tab prim 75 [.int .i64 n] [[], []] = some (.bool (in32 n), [[], []]) := by
  rw [ev_fn' tab prim (f := 75) rfl _ _ rfl]
  unfold in32
  by_cases h1 : -2147483648 ≤ n
  · have : (decide (n < 2147483648)) = decide (n ≤ 2147483647) := by rw [decide_eq_decide]; omega
    simp [h1, this]
  · simp [h1]
theorem ev_isField (n : Int) : ev tab prim 76 [.int .i64 n] [[], []] = some (.bool (isFd n), [[], []]) := by
  rw [ev_fn' tab prim (f := 76) rfl _ _ rfl]
  unfold isFd
  by_cases h1 : 22 ≤ n <;> simp [h1]
theorem ev_IsCall (n : Int) : ev tab prim 77 [.int .i64 n] [[], []] = some (.bool (isCl n), [[], []]) := by
  rw [ev_fn' tab prim (f := 77) rfl _ _ rfl]
  unfold isCl
  by_cases h1 : 32 ≤ n <;> simp [h1]
theorem ev_Jumps (n : Int) : ev tab prim 80 [.int .i64 n] [[], []] = some (.bool (isJp n), [[], []]) := by
  rw [ev_fn' tab prim (f := 80) rfl _ _ rfl]
  have e : isJp n = (n == 17 || (n == 18 || (n == 19 || n == 20))) := by
    rw [Bool.eq_iff_iff]; simp [isJp]; omega
  rw [e]
  cases h1 : n == 17
  · cases h2 : n == 18
    · cases h3 : n == 19 <;> simp [h1, h2, h3]
    · simp [h1, h2]
  · simp [h1]

/-- What the table tells of an operation. -/
structure Kind (o : Int) (A B C : Bool) (q21 fd cl q26 q30 q31 q5 q6 j : Bool) : Prop where
  (i : inR o = true) (a : rowB o 1 = A) (b : rowB o 2 = B) (c : rowB o 3 = C) (e21 : (o == 21) = q21) (efd : isFd o = fd) (ecl : isCl o = cl) (e26 : (o == 26) = q26)
  (e30 : (o == 30) = q30) (e31 : (o == 31) = q31) (e5 : (o == 5) = q5) (e6 : (o == 6) = q6) (ej : isJp o = j)

inductive KindOf (o : Int) : Prop
  | new : Kind o false false true true false false false false false false false false → KindOf o
  | fld : Kind o false false true false true false false false false false false false → KindOf o
  | call : Kind o false false true false false true false false false false false false → KindOf o
  | arr : Kind o false false false false false false true false false false false false → KindOf o
  | cast : Kind o false false false false false false false true false false false false → KindOf o
  | isin : Kind o false false false false false false false false true false false false → KindOf o
  | load : Kind o true false false false false false false false false true false false → KindOf o
  | store : Kind o true false false false false false false false false false true false → KindOf o
  | jump : Kind o true false false false false false false false false false false true → KindOf o
  | icon : Kind o true false false false false false false false false false false false → KindOf o
  | ccon : Kind o true true false false false false false false false false false false → KindOf o
  | other : Kind o false false false false false false false false false false false false → KindOf o

theorem kindOf {o : Int} (h : inR o = true) : KindOf o := by
  obtain ⟨n, rfl, hn⟩ := inR_nat h
  have : ∀ n : Fin 39, inR ((n : Nat) : Int) = true → KindOf ((n : Nat) : Int) := by
    intro n
    match n with
    | ⟨0, _⟩ =>
      intro h
      have h0 : inR 0 = false := by kernel_rfl
      have h : inR 0 = true := h
      rw [h0] at h; cases h
    | ⟨2, _⟩ => intro _; exact .icon (by constructor <;> kernel_rfl)
    | ⟨3, _⟩ => intro _; exact .ccon (by constructor <;> kernel_rfl)
    | ⟨5, _⟩ => intro _; exact .load (by constructor <;> kernel_rfl)
    | ⟨6, _⟩ => intro _; exact .store (by constructor <;> kernel_rfl)
    | ⟨17, _⟩ | ⟨18, _⟩ | ⟨19, _⟩ | ⟨20, _⟩ => intro _; exact .jump (by constructor <;> kernel_rfl)
    | ⟨21, _⟩ => intro _; exact .new (by constructor <;> kernel_rfl)
    | ⟨22, _⟩ | ⟨23, _⟩ | ⟨24, _⟩ | ⟨25, _⟩ => intro _; exact .fld (by constructor <;> kernel_rfl)
    | ⟨26, _⟩ => intro _; exact .arr (by constructor <;> kernel_rfl)
    | ⟨30, _⟩ => intro _; exact .cast (by constructor <;> kernel_rfl)
    | ⟨31, _⟩ => intro _; exact .isin (by constructor <;> kernel_rfl)
    | ⟨32, _⟩ | ⟨33, _⟩ | ⟨34, _⟩ | ⟨35, _⟩ => intro _; exact .call (by constructor <;> kernel_rfl)
    | ⟨1, _⟩ | ⟨4, _⟩ | ⟨7, _⟩ | ⟨8, _⟩ | ⟨9, _⟩ | ⟨10, _⟩ | ⟨11, _⟩ | ⟨12, _⟩ | ⟨13, _⟩ | ⟨14, _⟩ | ⟨15, _⟩ | ⟨16, _⟩ | ⟨27, _⟩ | ⟨28, _⟩ | ⟨29, _⟩ | ⟨36, _⟩ | ⟨37, _⟩ | ⟨38, _⟩ => intro _; exact .other (by constructor <;> kernel_rfl)
    | ⟨k + 39, hk⟩ => omega
  exact this ⟨n, by omega⟩ h

theorem mname_rel (n : List UInt8) : ((n == initN) && nameOk n) = false ∧ ((n == clinitN) && nameOk n) = false ∧ ((n == initN) && (n == clinitN)) = false := by
  refine ⟨?_, ?_, ?_⟩
  · cases h : n == initN
    · rfl
    · rw [show n = initN by simpa using h]; rfl
  · cases h : n == clinitN
    · rfl
    · rw [show n = clinitN by simpa using h]; rfl
  · cases h : n == initN
    · rfl
    · rw [show n = initN by simpa using h]; rfl

set_option maxHeartbeats 64000000 in
theorem ev_RefCheck (x : Ins) (len loc : Int) (hc : x.c.length ≤ 65535) (hn : x.n.length ≤ 65535) (hd : x.d.length ≤ 65535) :
    ev tab prim 50 [x.v, .int .i64 len, .int .i64 loc] [[], []] = some (.int .i64 (chkI x len loc), [[], []]) := by
  obtain ⟨o, a, b, c, n, d⟩ := x
  simp only at hc hn hd
  have h40 := ev41 o
  rw [shapeOf_eq] at h40
  have hM := ev48 d (by omega)
  obtain ⟨ps, q, hm⟩ := methV_ok d
  rw [hm] at hM
  have hC := ev18 c (by omega)
  have hN := ev18 n (by omega)
  have hMN := ev49 n (by omega)
  have hT := ev19 d (by omega)
  have hAr := ev78 d (by omega)
  have hR := ev79 d (by omega)
  have hA := ev_int32s a
  have hB := ev_int32s b
  have hF := ev_isField o
  have hL := ev_IsCall o
  have hJ := ev_Jumps o
  obtain ⟨r1, r2, r3⟩ := mname_rel n
  have hmn : mnameOk n = (n == initN || (n == clinitN || nameOk n)) := rfl
  unfold Ins.v chkI bad32 badIx nmd
  simp only
  rw [ev_fn' tab prim (f := 50) rfl _ _ rfl]
  cases hi : inR o
  · rw [hi] at h40; simp [h40]
  have hk := kindOf hi
  rw [hi] at h40
  clear hi
  have hk2 : methOk d = true ∨ methOk d = false := by cases methOk d <;> simp
  rw [hmn] at hMN
  clear hm hmn
  generalize nameOk c = nc at *
  generalize nameOk n = nn at *
  generalize typeOk d = td at *
  generalize refOk d = rd at *
  generalize in32 a = wa at *
  generalize in32 b = wb at *
  rcases hk with k | k | k | k | k | k | k | k | k | k | k | k <;> obtain ⟨ki, ka, kb, kc, k21, kfd, kcl, k26, k30, k31, k5, k6, kj⟩ := k <;> rw [ka, kb, kc] at h40 <;> rw [kfd] at hF <;> rw [kcl] at hL <;> rw [kj] at hJ
  · cases nc <;> simp [h40, hM, hC, hF, hL, hJ, idxOk, *]
  · cases nc
    · simp [h40, hM, hC, idxOk, *]
    · cases nn
      · simp [h40, hM, hC, hF, hN, idxOk, *]
      · cases td <;> simp [h40, hM, hC, hF, hN, hT, hL, hJ, idxOk, *]
  · cases nc
    · simp [h40, hM, hC, idxOk, *]
    · cases hei : n == initN <;> cases hec : n == clinitN <;> cases nn <;> first | (exfalso; rw [hei] at r1 r3; rw [hec] at r2 r3; revert r1 r2 r3; decide) | (rw [hei, hec] at hMN; unfold initN at hei; unfold clinitN at hec; have e33b : (o != 33) = !(o == 33) := rfl; cases e33 : o == 33 <;> rw [e33] at e33b <;> rcases hk2 with h | h <;> rw [h] at hM <;> simp [e33b, h40, hM, hC, hF, hL, hMN, hei, hec, e33, h, idxOk, *])
  · cases td
    · simp [h40, hM, hC, hF, hL, hT, idxOk, *]
    · cases har : arrV d == [] <;> simp [h40, hM, hC, hF, hL, hJ, hT, hAr, har, idxOk, *]
  · cases rd <;> simp [h40, hM, hC, hF, hL, hJ, hR, idxOk, *]
  · cases rd <;> simp [h40, hM, hC, hF, hL, hJ, hR, idxOk, *]
  · cases wa
    · simp [h40, hM, hA, idxOk, *]
    · by_cases l1 : a < 0
      · simp [h40, hM, hA, hF, hL, hJ, idxOk, l1, *]
      · by_cases l2 : loc ≤ a <;> simp [h40, hM, hA, hF, hL, hJ, idxOk, l1, l2, *]
  · cases wa
    · simp [h40, hM, hA, idxOk, *]
    · by_cases l1 : a < 0
      · simp [h40, hM, hA, hF, hL, hJ, idxOk, l1, *]
      · by_cases l2 : loc ≤ a <;> simp [h40, hM, hA, hF, hL, hJ, idxOk, l1, l2, *]
  · cases wa
    · simp [h40, hM, hA, idxOk, *]
    · by_cases l1 : a < 0
      · simp [h40, hM, hA, hF, hL, hJ, idxOk, l1, *]
      · by_cases l2 : len ≤ a <;> simp [h40, hM, hA, hF, hL, hJ, idxOk, l1, l2, *]
  · cases wa <;> simp [h40, hM, hA, hF, hL, hJ, idxOk, *]
  · cases wa
    · simp [h40, hM, hA, idxOk, *]
    · cases wb <;> simp [h40, hM, hA, hB, hF, hL, hJ, idxOk, *]
  · simp [h40, hM, hF, hL, hJ, idxOk, *]

end Go.Proofs.YtgmlanhhjmhmmaaGreat.Ev

import Derived.Test.YtpajgenngpjbaaaGreatFx
import Derived.Test.YtpajgenngpjbaaaGreatGh
/- Whether an instruction may be: all of it. -/
namespace Go.Proofs.YtpajgenngpjbaaaGreat.Ev
open Go

def isFd (o : Int) : Bool := decide (22 ≤ o) && decide (o ≤ 25)
def isCl (o : Int) : Bool := decide (32 ≤ o) && decide (o ≤ 35)
def isJp (o : Int) : Bool := decide (17 ≤ o) && decide (o ≤ 20)
def initN : List UInt8 := [60, 105, 110, 105, 116, 62]
def clinitN : List UInt8 := [60, 99, 108, 105, 110, 105, 116, 62]

/-- May an instruction's texts be? -/
def nmd (o : Int) (c n d : List UInt8) : Bool :=
  bif o == 21 then nameOk c
  else bif isFd o then nameOk c && (nameOk n && typeOk d)
  else bif isCl o then nameOk c && ((nameOk n || (n == initN && o == 33)) && methOk d)
  else bif o == 26 then typeOk d && !(arrV d == [])
  else bif o == 30 || o == 31 then refOk d else true

set_option maxHeartbeats 16000000 in
theorem ev_named (x : Ins) (hc : x.c.length ≤ 65535) (hn : x.n.length ≤ 65535) (hd : x.d.length ≤ 65535) :
    ev tab prim 154 [x.v] [[], []] = some (.bool (nmd x.o x.c x.n x.d), [[], []]) := by
  obtain ⟨o, a, b, c, n, d⟩ := x
  simp only at hc hn hd
  have hM := ev148 d (by omega)
  obtain ⟨ps, q, hm⟩ := methV_ok d
  rw [hm] at hM
  have hC := ev74 c (by omega)
  have hN := ev74 n (by omega)
  have hT := ev77 d (by omega)
  have hA := ev181 d (by omega)
  have hR := ev182 d (by omega)
  have hF : ev tab prim 179 [.int .i64 o] [[], []] = some (.bool (isFd o), [[], []]) := ev179 o
  have hL : ev tab prim 180 [.int .i64 o] [[], []] = some (.bool (isCl o), [[], []]) := ev180 o
  unfold Ins.v nmd
  simp only
  rw [ev_fn' tab prim (f := 154) rfl _ _ rfl]
  have hk : methOk d = true ∨ methOk d = false := by cases methOk d <;> simp
  generalize nameOk c = nc at *
  generalize nameOk n = nn at *
  generalize typeOk d = td at *
  generalize refOk d = rd at *
  cases e1 : o == 21
  · cases e2 : isFd o <;> rw [e2] at hF
    · cases e3 : isCl o <;> rw [e3] at hL
      · cases e4 : o == 26
        · cases e5 : o == 30
          · cases e6 : o == 31
            · simp [hM, hF, hL, e1, e4, e5, e6]
            · simp [hM, hF, hL, e1, e4, e5, e6, hR]
          · simp [hM, hF, hL, e1, e4, e5, hR]
        · cases td
          · simp [hM, hF, hL, e1, e4, hT]
          · simp [hM, hF, hL, e1, e4, hT, hA]
      · cases nn
        · cases e7 : n == initN <;> unfold initN at e7
          · cases nc <;> simp [hM, hF, hL, e1, hC, hN, e7]
          · cases e8 : o == 33
            · cases nc <;> simp [hM, hF, hL, e1, hC, hN, e7, e8]
            · cases nc
              · simp [hM, hF, hL, e1, hC, hN, e7, e8]
              · rcases hk with h | h <;> rw [h] at hM <;> simp [hM, hF, hL, e1, hC, hN, e7, e8, h]
        · cases nc
          · simp [hM, hF, hL, e1, hC, hN]
          · rcases hk with h | h <;> rw [h] at hM <;> simp [hM, hF, hL, e1, hC, hN, h]
    · cases nc <;> cases nn <;> simp [hM, hF, e1, hC, hN, hT]
  · simp [hM, e1, hC]

def in32 (a : Int) : Bool := decide (-2147483648 ≤ a) && decide (a ≤ 2147483647)
def bad32 (o a b : Int) : Bool := (rowB o 1 && !in32 a) || (rowB o 2 && !in32 b)
def badIx (o a len loc : Int) : Bool := ((o == 5 || o == 6) && (decide (a < 0) || decide (loc ≤ a))) || (isJp o && (decide (a < 0) || decide (len ≤ a)))
/-- Why an instruction may not be. -/
def chkI (x : Ins) (len loc : Int) : Int :=
  bif !inR x.o then 3 else bif bad32 x.o x.a x.b then 5 else bif !nmd x.o x.c x.n x.d then 6 else bif badIx x.o x.a len loc then 4 else 0

set_option maxHeartbeats 64000000 in
theorem ev_CheckI (x : Ins) (len loc : Int) (hc : x.c.length ≤ 65535) (hn : x.n.length ≤ 65535) (hd : x.d.length ≤ 65535) :
    ev tab prim 120 [x.v, .int .i64 len, .int .i64 loc] [[], []] = some (.int .i64 (chkI x len loc), [[], []]) := by
  have hN := ev_named x hc hn hd
  obtain ⟨o, a, b, c, n, d⟩ := x
  have h40 := ev152 o
  rw [shapeOf_eq] at h40
  have hA : ev tab prim 153 [.int .i64 a, .int .i64 (-2147483648), .int .i64 2147483647] [[], []] = some (.bool (in32 a), [[], []]) := ev153 _ _ _
  have hB : ev tab prim 153 [.int .i64 b, .int .i64 (-2147483648), .int .i64 2147483647] [[], []] = some (.bool (in32 b), [[], []]) := ev153 _ _ _
  have hJ : ev tab prim 155 [.int .i64 o] [[], []] = some (.bool (isJp o), [[], []]) := ev155 o
  unfold chkI bad32 badIx
  unfold Ins.v at hN ⊢
  simp only at hN ⊢
  rw [ev_fn' tab prim (f := 120) rfl _ _ rfl]
  have hj5 : (o == 5) = true → isJp o = false := fun h => by rw [show o = 5 by simpa using h]; rfl
  have hj6 : (o == 6) = true → isJp o = false := fun h => by rw [show o = 6 by simpa using h]; rfl
  generalize nmd o c n d = nm at *
  generalize in32 a = wa at *
  generalize in32 b = wb at *
  generalize isJp o = j at *
  generalize inR o = i at *
  generalize rowB o 1 = A at *
  generalize rowB o 2 = B at *
  have hloc : (o == 5) = true ∨ ((o == 5) = false ∧ (o == 6) = true) ∨ ((o == 5) = false ∧ (o == 6) = false) := by cases (o == 5) <;> cases (o == 6) <;> simp
  have cA : (A = true ∧ wa = false) ∨ A = false ∨ (A = true ∧ wa = true) := by cases A <;> cases wa <;> simp
  have cB : (B = true ∧ wb = false) ∨ B = false ∨ (B = true ∧ wb = true) := by cases B <;> cases wb <;> simp
  cases i
  · rcases hloc with e5 | ⟨e5, e6⟩ | ⟨e5, e6⟩
    · simp [h40, e5]
    · simp [h40, e5, e6]
    · simp [h40, e5, e6]
  rcases cA with ⟨rfl, rfl⟩ | cA
  · rcases hloc with e5 | ⟨e5, e6⟩ | ⟨e5, e6⟩
    · simp [h40, hA, e5]
    · simp [h40, hA, e5, e6]
    · simp [h40, hA, e5, e6]
  rcases cB with ⟨rfl, rfl⟩ | cB
  · rcases cA with rfl | ⟨rfl, rfl⟩ <;> rcases hloc with e5 | ⟨e5, e6⟩ | ⟨e5, e6⟩
    all_goals simp [h40, hA, hB, *]
  cases nm
  · rcases cA with rfl | ⟨rfl, rfl⟩ <;> rcases cB with rfl | ⟨rfl, rfl⟩ <;> rcases hloc with e5 | ⟨e5, e6⟩ | ⟨e5, e6⟩
    all_goals simp [h40, hA, hB, hN, *]
  rcases hloc with e5 | ⟨e5, e6⟩ | ⟨e5, e6⟩
  · have hj := hj5 e5
    subst hj
    by_cases l1 : a < 0
    · rcases cA with rfl | ⟨rfl, rfl⟩ <;> rcases cB with rfl | ⟨rfl, rfl⟩ <;> simp [h40, hA, hB, hN, hJ, e5, l1]
    · by_cases l2 : loc ≤ a
      · rcases cA with rfl | ⟨rfl, rfl⟩ <;> rcases cB with rfl | ⟨rfl, rfl⟩ <;> simp [h40, hA, hB, hN, hJ, e5, l1, l2]
      · rcases cA with rfl | ⟨rfl, rfl⟩ <;> rcases cB with rfl | ⟨rfl, rfl⟩ <;> simp [h40, hA, hB, hN, hJ, e5, l1, l2]
  · have hj := hj6 e6
    subst hj
    by_cases l1 : a < 0
    · rcases cA with rfl | ⟨rfl, rfl⟩ <;> rcases cB with rfl | ⟨rfl, rfl⟩ <;> simp [h40, hA, hB, hN, hJ, e5, e6, l1]
    · by_cases l2 : loc ≤ a
      · rcases cA with rfl | ⟨rfl, rfl⟩ <;> rcases cB with rfl | ⟨rfl, rfl⟩ <;> simp [h40, hA, hB, hN, hJ, e5, e6, l1, l2]
      · rcases cA with rfl | ⟨rfl, rfl⟩ <;> rcases cB with rfl | ⟨rfl, rfl⟩ <;> simp [h40, hA, hB, hN, hJ, e5, e6, l1, l2]
  · cases j
    · rcases cA with rfl | ⟨rfl, rfl⟩ <;> rcases cB with rfl | ⟨rfl, rfl⟩ <;> simp [h40, hA, hB, hN, hJ, e5, e6]
    · by_cases l1 : a < 0
      · rcases cA with rfl | ⟨rfl, rfl⟩ <;> rcases cB with rfl | ⟨rfl, rfl⟩ <;> simp [h40, hA, hB, hN, hJ, e5, e6, l1]
      · by_cases l2 : len ≤ a
        · rcases cA with rfl | ⟨rfl, rfl⟩ <;> rcases cB with rfl | ⟨rfl, rfl⟩ <;> simp [h40, hA, hB, hN, hJ, e5, e6, l1, l2]
        · rcases cA with rfl | ⟨rfl, rfl⟩ <;> rcases cB with rfl | ⟨rfl, rfl⟩ <;> simp [h40, hA, hB, hN, hJ, e5, e6, l1, l2]

end Go.Proofs.YtpajgenngpjbaaaGreat.Ev

/- Whether an instruction may be, as the document tells it. -/
namespace Go.Proofs.YtpajgenngpjbaaaGreat.Ev
open Go

/-- What the table tells of an operation. -/
structure Kind (o : Int) (A B C : Bool) (q21 fd cl q26 q30 q31 q5 q6 j : Bool) : Prop where
  (i : inR o = true) (a : rowB o 1 = A) (b : rowB o 2 = B) (c : rowB o 3 = C) (e21 : (o == 21) = q21) (efd : isFd o = fd) (ecl : isCl o = cl) (e26 : (o == 26) = q26)
  (e30 : (o == 30) = q30) (e31 : (o == 31) = q31) (e5 : (o == 5) = q5) (e6 : (o == 6) = q6) (ej : isJp o = j)

inductive KindOf (o : Int) : Prop
  | new : Kind o false false true true false false false false false false false false → KindOf o
  | fld : Kind o false false true false true false false false false false false false → KindOf o
  | call : Kind o false false true false false true false false false false false false → KindOf o
  | arr : Kind o false false false false false false true false false false false false → KindOf o
  | cast : Kind o false false false false false false false true false false false false → KindOf o
  | isin : Kind o false false false false false false false false true false false false → KindOf o
  | load : Kind o true false false false false false false false false true false false → KindOf o
  | store : Kind o true false false false false false false false false false true false → KindOf o
  | jump : Kind o true false false false false false false false false false false true → KindOf o
  | icon : Kind o true false false false false false false false false false false false → KindOf o
  | ccon : Kind o true true false false false false false false false false false false → KindOf o
  | other : Kind o false false false false false false false false false false false false → KindOf o

theorem kindOf {o : Int} (h : inR o = true) : KindOf o := by
  obtain ⟨n, rfl, hn⟩ := inR_nat h
  have : ∀ n : Fin 39, inR ((n : Nat) : Int) = true → KindOf ((n : Nat) : Int) := by
    intro n
    match n with
    | ⟨0, _⟩ =>
      intro h
      have h0 : inR 0 = false := by kernel_rfl
      have h : inR 0 = true := h
      rw [h0] at h; cases h
    | ⟨2, _⟩ => intro _; exact .icon (by constructor <;> kernel_rfl)
    | ⟨3, _⟩ => intro _; exact .ccon (by constructor <;> kernel_rfl)
    | ⟨5, _⟩ => intro _; exact .load (by constructor <;> kernel_rfl)
    | ⟨6, _⟩ => intro _; exact .store (by constructor <;> kernel_rfl)
    | ⟨17, _⟩ | ⟨18, _⟩ | ⟨19, _⟩ | ⟨20, _⟩ => intro _; exact .jump (by constructor <;> kernel_rfl)
    | ⟨21, _⟩ => intro _; exact .new (by constructor <;> kernel_rfl)
    | ⟨22, _⟩ | ⟨23, _⟩ | ⟨24, _⟩ | ⟨25, _⟩ => intro _; exact .fld (by constructor <;> kernel_rfl)
    | ⟨26, _⟩ => intro _; exact .arr (by constructor <;> kernel_rfl)
    | ⟨30, _⟩ => intro _; exact .cast (by constructor <;> kernel_rfl)
    | ⟨31, _⟩ => intro _; exact .isin (by constructor <;> kernel_rfl)
    | ⟨32, _⟩ | ⟨33, _⟩ | ⟨34, _⟩ | ⟨35, _⟩ => intro _; exact .call (by constructor <;> kernel_rfl)
    | ⟨1, _⟩ | ⟨4, _⟩ | ⟨7, _⟩ | ⟨8, _⟩ | ⟨9, _⟩ | ⟨10, _⟩ | ⟨11, _⟩ | ⟨12, _⟩ | ⟨13, _⟩ | ⟨14, _⟩ | ⟨15, _⟩ | ⟨16, _⟩ | ⟨27, _⟩ | ⟨28, _⟩ | ⟨29, _⟩ | ⟨36, _⟩ | ⟨37, _⟩ | ⟨38, _⟩ => intro _; exact .other (by constructor <;> kernel_rfl)
    | ⟨k + 39, hk⟩ => omega
  exact this ⟨n, by omega⟩ h

theorem mname_rel (n : List UInt8) : ((n == initN) && nameOk n) = false ∧ ((n == clinitN) && nameOk n) = false ∧ ((n == initN) && (n == clinitN)) = false := by
  refine ⟨?_, ?_, ?_⟩
  · cases h : n == initN
    · rfl
    · rw [show n = initN by simpa using h]; rfl
  · cases h : n == clinitN
    · rfl
    · rw [show n = clinitN by simpa using h]; rfl
  · cases h : n == initN
    · rfl
    · rw [show n = initN by simpa using h]; rfl

end Go.Proofs.YtpajgenngpjbaaaGreat.Ev

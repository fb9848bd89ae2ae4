import Derived.Test.YtpajgenngpjbaaaGreatDoorLf
import Derived.Test.YtpajgenngpjbaaaGreatDoorGm
import Derived.Test.YtpajgenngpjbaaaGreatDoorGh
import Derived.Test.YtpajgenngpjbaaaGreatDoorKv
/- Of a program, nil or not: what is asked of it by resolve. -/
namespace Go.Proofs.YtpajgenngpjbaaaGreatDoor.Ev
open Go

/-- A program, nil or in memory. -/
inductive ProgAt (p : V) (S : List Cls) (O A : Boxes) : Prop
  | nil : p = .nilp → S = [] → ProgAt p S O A
  | held (k t q : Nat) : p = .ptr 0 k 0 → Held (mm [] O A) k t q S → Lim S → ProgAt p S O A
theorem ProgAt.form {p : V} {S : List Cls} {O A : Boxes} (h : ProgAt p S O A) : p = .nilp ∨ ∃ k, p = .ptr 0 k 0 := by
  rcases h with ⟨h, _⟩ | ⟨k, t, q, h, _, _⟩
  · exact .inl h
  · exact .inr ⟨k, h⟩
theorem ProgAt.more {p : V} {S : List Cls} {O A : Boxes} (h : ProgAt p S O A) (x y : Boxes) : ProgAt p S (O ++ x) (A ++ y) := by
  rcases h with ⟨h1, h2⟩ | ⟨k, t, q, h1, h2, h3⟩
  · exact .nil h1 h2
  · exact .held k t q h1 (h2.more x y) h3
theorem ProgAt.few {p : V} {S : List Cls} {O A : Boxes} (h : ProgAt p S O A) : S.length ≤ 1000 := by
  rcases h with ⟨_, rfl⟩ | ⟨k, t, q, _, h2, _⟩
  · simp
  · exact h2.few
theorem ProgAt.own {p : V} {S : List Cls} {O A : Boxes} (h : ProgAt p S O A) : ∀ c ∈ S, c.OwnOk := by
  rcases h with ⟨_, rfl⟩ | ⟨k, t, q, _, _, h3⟩
  · intro c hc; cases hc
  · exact h3.own
theorem look_own {S : List Cls} (h : ∀ c ∈ S, c.OwnOk) (nm : Nm) : ((look S nm).getD Cls.zero).OwnOk := by
  cases hk : look S nm with
  | none => exact zero_own
  | some c => exact h c (look_mem hk).1
theorem ProgAt.ifcs_len {p : V} {S : List Cls} {O A : Boxes} (h : ProgAt p S O A) (nm : Nm) : (sortT (ifcs S nm)).length ≤ 200000 := by
  rw [sortT_len]
  rcases h with ⟨_, rfl⟩ | ⟨k, t, q, _, _, h3⟩
  · have : ifcs [] nm = [] := by rw [ifcs_N]; rfl
    rw [this]; simp
  · exact Ev.ifcs_len h3 nm

section
variable {p : V} {S : List Cls} {O A : Boxes}
theorem at_find (h : ProgAt p S O A) (F : Mem) (nm : Nm) : ev tab prim 71 [p, .str nm] (mm F O A) = some (findV (look S nm), mm F O A) := by
  rcases h with ⟨rfl, rfl⟩ | ⟨k, t, q, rfl, hH, _⟩
  · exact ev_find_nil nm _
  · exact ev_find hH.any nm
theorem at_Supers (h : ProgAt p S O A) (F : Mem) (nm : Nm) : ev tab prim 30 [p, .str nm] (mm F O A) = some (.list 1 ((chain S nm).map V.str) true, mm F O A) := by
  rcases h with ⟨rfl, rfl⟩ | ⟨k, t, q, rfl, hH, _⟩
  · exact ev_Supers_nil nm _
  · exact ev_Supers hH.any nm
theorem at_Interfaces (h : ProgAt p S O A) (hO : Num O) (hA : Num A) (F : Mem) (nm : Nm) : ∃ x y, Num (O ++ x) ∧ Num (A ++ y) ∧
    ev tab prim 31 [p, .str nm] (mm F O A) = some (.list 1 ((sortT (ifcs S nm)).map V.str) true, mm F (O ++ x) (A ++ y)) := by
  rcases h with ⟨rfl, rfl⟩ | ⟨k, t, q, rfl, hH, hL⟩
  · have hi : ifcs [] nm = [] := by rw [ifcs_N]; rfl
    have hst : sortT [] = [] := by simp [sortT]
    rw [hi, hst]
    obtain ⟨v, w, h2⟩ := ev_Interfaces_nil' (F := F) hO hA nm
    exact ⟨_, _, hO.add _, hA.add _, h2⟩
  · obtain ⟨v, h1⟩ := ev_Interfaces hO hA (hH.any (F' := F)) hL nm
    exact ⟨_, _, hO.add _, hA.add _, h1⟩
theorem at_Look (h : ProgAt p S O A) (F : Mem) (nm : Nm) : ev tab prim 36 [p, .str nm] (mm F O A) = some (findV (look S nm), mm F O A) := by
  have hf := at_find h ([(4, [.str [], .str [], .bool false, .bool false, .list 1 [] true, .list 3 [] true, .list 8 [] true])] :: F) nm
  have c0 : ∀ b O A, mm (b :: F) O A = b :: mm F O A := fun _ _ _ => rfl
  rw [c0] at hf
  unfold findV at hf ⊢
  generalize (look S nm).getD Cls.zero = c at *
  generalize (look S nm).isSome = b at *
  unfold Cls.v Cls.cells at hf ⊢
  rw [ev_fn' tab prim (f := 36) rfl _ _ rfl]
  obtain rfl | ⟨k, rfl⟩ := h.form <;> simp [hf]

/-- A method of a class's own. -/
def metF (S : List Cls) (cls nm d : Nm) : Option Mth := ((look S cls).getD Cls.zero).ms.find? fun m => m.n == nm && m.d == d
def metV (o : Option Mth) : V := .tup [(o.getD mth0).v, .bool o.isSome]
def mzero : List V := [.str [], .str [], .bool false, .bool false, .int .i64 0, .int .i64 0, .list 6 [] true, .list 4 [] true]
/-- A class's supers, then its interfaces. -/
def aboveL (S : List Cls) (cls : Nm) : List Nm := chain S cls ++ sortT (ifcs S cls)
theorem aboveL_len (h : ProgAt p S O A) (cls : Nm) : (aboveL S cls).length ≤ 201000 := by
  have h1 := chain_len S cls
  have h2 := h.ifcs_len cls
  have h3 := h.few
  unfold aboveL
  rw [List.length_append]
  omega
end
end Go.Proofs.YtpajgenngpjbaaaGreatDoor.Ev

/- Of a program: which types are known (subtype). -/
namespace Go.Proofs.YtpajgenngpjbaaaGreatDoor.Ev
open Go

/-! ### strings.TrimLeft of '[' -/
def dropB : List UInt8 → List UInt8
  | [] => []
  | c :: r => if c = 91 then dropB r else c :: r
theorem dropB_len : ∀ s : List UInt8, (dropB s).length ≤ s.length
  | [] => Nat.le_refl _
  | c :: r => by
    unfold dropB
    split
    · exact Nat.le_succ_of_le (dropB_len r)
    · exact Nat.le_refl _
theorem tb_loop : ∀ (s : List UInt8), s.length ≤ 100000 → cv tab prim (.loop L150_0) { env := [(0, .str s), (1, .int .u8 91)], mem := [[], [], []] } = some (.exit 0, { env := [(0, .str (dropB s))], mem := [[], [], []] })
  | [], _ => by
    rw [cv_loop']
    unfold dropB
    simp [L150_0]
  | c :: r, hs => by
    rw [List.length_cons] at hs
    have g0 : (0 : Int) < ((r.length + 1 : Nat) : Int) := by omega
    have l1 : (1 : Int) ≤ (r.length : Int) + 1 := by omega
    unfold dropB
    by_cases hc : c = 91
    · subst hc
      rw [if_pos rfl, ← tb_loop r (by omega), cv_loop']
      simp [L150_0, g0, idxOk, l1]
    · have e1 : ((c.toNat : Int) == 91) = false := u8ne (n := 91) (by omega) hc
      rw [if_neg hc, cv_loop']
      simp [L150_0, g0, idxOk, l1, e1]
set_option maxRecDepth 100000 in
theorem ev_TrimLeft (s : List UInt8) (hs : s.length ≤ 100000) : ev tab prim 117 [.str s, .str [91]] [[], []] = some (.str (dropB s), [[], []]) := by
  have hB : ev tab prim 150 [.str s, .int .u8 91] [[], []] = some (.str (dropB s), [[], []]) := by
    have hL := tb_loop s hs
    rw [ev_fn' tab prim (f := 150) rfl _ _ rfl]
    simp [hL]
  rw [ev_fn' tab prim (f := 117) rfl _ _ rfl]
  cases s with
  | nil => simp [dropB]
  | cons c r => simp [hB, idxOk]

/-! ### desc.Known of a type -/
/-- The class names in a type. -/
def knownL (t : List UInt8) : List Nm := if classV (dropB t) = [] then [] else [classV (dropB t)]
theorem typeOk_cut {s : List UInt8} (h : typeOk s = true) : methOk s = false := by
  unfold methOk
  have : (cut 40 s).2 = false := by
    cases s with
    | nil => rfl
    | cons c r =>
      unfold cut
      by_cases hc : c = 40
      · exfalso
        subst hc
        unfold typeOk at h
        have h0 : fr 0 (40 :: r) = 0 := rfl
        rw [h0] at h
        simp at h
      · simp [hc]
  rw [this, Bool.false_and]
theorem ev_descKnown (t : List UInt8) (hl : t.length ≤ 100000) (ht : typeOk t = true) : ev tab prim 79 [.str t] [[], []] = some (.list 1 ((knownL t).map V.str) true, [[], []]) := by
  have hM := ev116 t hl
  obtain ⟨ps, q, hm⟩ := methV_ok t
  rw [hm, typeOk_cut ht] at hM
  have hT := ev_TrimLeft t hl
  have hC := ev45 (dropB t) (by have := dropB_len t; omega)
  have hS := ev_SContains [] (classV (dropB t)) (by simp) false
  unfold knownL
  unfold strs at hM
  generalize classV (dropB t) = c at *
  have h1 : cv tab prim (.loop L79_0) { env := [(2, .list 1 ((if c = [] then [] else [c]).map V.str) true), (24, .list 1 [.str t] false), (25, .int .i64 1), (26, .int .i64 1)], mem := [[], [], []] } = some (.exit 0, { env := [(2, .list 1 ((if c = [] then [] else [c]).map V.str) true)], mem := [[], [], []] }) := by
    rw [cv_loop']
    simp [L79_0]
  have h0 : cv tab prim (.loop L79_0) { env := [(2, .list 1 [] true), (24, .list 1 [.str t] false), (25, .int .i64 1), (26, .int .i64 0)], mem := [[], [], []] } = some (.exit 0, { env := [(2, .list 1 ((if c = [] then [] else [c]).map V.str) true)], mem := [[], [], []] }) := by
    rw [← h1, cv_loop']
    by_cases hc : c = []
    · subst hc
      simp [L79_0, idxOk, hT, hC, wrap_small]
    · have e1 : (c == []) = false := by simpa using hc
      simp only [List.map_nil] at hS
      simp [L79_0, idxOk, hT, hC, hS, hc, e1, bne, wrap_small]
  generalize (if c = [] then [] else [c]).map V.str = Z at *
  rw [ev_fn' tab prim (f := 79) rfl _ _ rfl]
  simp [hM, h0]

/-! ### Known -/
def knownF (S : List Cls) (t : List UInt8) : Bool := (knownL t).all fun c => (look S c).isSome
theorem ev_PKnown1 {k t q : Nat} {S : List Cls} {M : Mem} (h : Held M k t q S) (s : Nm) (L : Nat) (hL : L < M.length) (h2 : mget M L 2 = some [.ptr 0 k 0]) :
    ev tab prim 80 [.str s, .ptr L 2 0] M = some (.bool (!(look S s).isSome), M) := by
  have hne : ¬ L = M.length := by omega
  have hf := ev_find (h.push []) s
  unfold findV at hf
  generalize (look S s).getD Cls.zero = c at *
  generalize (look S s).isSome = b at *
  unfold Cls.v Cls.cells at hf
  rw [ev_fn' tab prim (f := 80) rfl _ _ rfl]
  cases b <;> simp [hne, h2, hf]
theorem ev_PKnown {k t q : Nat} {S : List Cls} {M : Mem} (h : Held M k t q S) (s : List UInt8) (hl : s.length ≤ 100000) (ht : typeOk s = true) : ev tab prim 41 [.ptr 0 k 0, .str s] M = some (.bool (knownF S s), M) := by
  have hK := ev_descKnown s hl ht
  have hl2 := h.len
  have hkl : (knownL s).length ≤ 1 := by unfold knownL; split <;> simp
  have hB : Held ([] :: [] :: [(2, [.ptr 0 k 0])] :: M) k t q S := ((h.push _).push _).push _
  have hC := ev_ixSC (knownL s) (by omega) 80 [.ptr M.length 2 0] (fun c => !(look S c).isSome) ([(2, [.ptr 0 k 0])] :: M) (fun c _ => ev_PKnown1 hB c M.length (by simp; omega) (by
    have e1 : ¬ M.length = M.length + 1 := by omega
    have e2 : ¬ M.length = M.length + 1 + 1 := by omega
    simp [e1, e2])) false
  have e : knownF S s = !((knownL s).any fun c => !(look S c).isSome) := by
    unfold knownF
    rw [List.not_any_eq_all_not]
    congr 1
    funext c
    simp
  rw [e]
  generalize (knownL s).any (fun c => !(look S c).isSome) = b at *
  rw [ev_fn' tab prim (f := 41) rfl _ _ rfl]
  simp [hK, hC]
/-- Is a type known? -/
def knF (p : V) (S : List Cls) (t : List UInt8) : Bool := match p with
  | .nilp => false
  | _ => typeOk t && knownF S t
section
variable {p : V} {S : List Cls} {O A : Boxes}
theorem at_Known (h : ProgAt p S O A) (F : Mem) (s : List UInt8) (hl : s.length ≤ 100000) : ev tab prim 17 [p, .str s] (mm F O A) = some (.bool (knF p S s), mm F O A) := by
  have hT := ev40 s hl
  have c0 : ∀ b O A, mm (b :: F) O A = b :: mm F O A := fun _ _ _ => rfl
  rcases h with ⟨rfl, rfl⟩ | ⟨k, t, q, rfl, hH, _⟩
  · unfold knF
    rw [ev_fn' tab prim (f := 17) rfl _ _ rfl]
    simp
  · unfold knF
    rw [ev_fn' tab prim (f := 17) rfl _ _ rfl]
    cases ht : typeOk s with
    | false => rw [ht] at hT; simp [hT]
    | true =>
      have hK := ev_PKnown (hH.any (F' := [] :: F)) s hl ht
      rw [ht] at hT
      rw [c0] at hK
      simp [hT, hK]
/-! ### Class -/
def clsF (S : List Cls) (a b : Nm) : Bool := (chain S a).contains b || (sortT (ifcs S a)).contains b
theorem at_subClass (h : ProgAt p S O A) (hO : Num O) (hA : Num A) (F : Mem) (a b : Nm) : ∃ x y, Num (O ++ x) ∧ Num (A ++ y) ∧
    ev tab prim 13 [p, .str a, .str b] (mm F O A) = some (.bool (clsF S a b), mm F (O ++ x) (A ++ y)) := by
  have hM : (201000 : Nat) ≤ maxLen := by decide
  have h1 := at_Supers h ([] :: F) a
  have hcl := chain_len S a
  have hfew := h.few
  have hil := h.ifcs_len a
  have hS := ev_SContains (chain S a) b (by omega) false
  have c0 : ∀ b O A, mm (b :: F) O A = b :: mm F O A := fun _ _ _ => rfl
  rw [c0] at h1
  unfold clsF
  cases hb : (chain S a).contains b with
  | true =>
    rw [hb] at hS
    refine ⟨[], [], by simpa using hO, by simpa using hA, ?_⟩
    generalize chain S a = C at *
    rw [ev_fn' tab prim (f := 13) rfl _ _ rfl]
    obtain rfl | ⟨k, rfl⟩ := h.form <;> simp [h1, hS]
  | false =>
    rw [hb] at hS
    obtain ⟨x, y, hO2, hA2, h2⟩ := at_Interfaces h hO hA ([] :: F) a
    have hS2 := ev_SContains (sortT (ifcs S a)) b (by omega) false
    refine ⟨x, y, hO2, hA2, ?_⟩
    simp only [c0] at h2
    generalize chain S a = C at *
    generalize sortT (ifcs S a) = I at *
    rw [ev_fn' tab prim (f := 13) rfl _ _ rfl]
    obtain rfl | ⟨k, rfl⟩ := h.form <;> simp [h1, hS, h2, hS2]
end
end Go.Proofs.YtpajgenngpjbaaaGreatDoor.Ev

/- Which type is one of another; what two have above them (subtype). -/
namespace Go.Proofs.YtpajgenngpjbaaaGreatDoor.Ev
open Go

section
variable {p : V} {S : List Cls} {O A : Boxes}
/-- An array's element; or nothing. -/
def elemS (s : List UInt8) : List UInt8 := match s with
  | 91 :: r => if typeOk (91 :: r) = true then r else []
  | _ => []
def elemB (s : List UInt8) : Bool := match s with
  | 91 :: r => typeOk (91 :: r)
  | _ => false
theorem elemV_SB (s : List UInt8) : elemV s = .tup [.str (elemS s), .bool (elemB s)] := by
  cases s with
  | nil => rfl
  | cons c r =>
    by_cases hc : c = 91
    · subst hc
      show (if typeOk (91 :: r) = true then _ else _) = V.tup [.str (if typeOk (91 :: r) = true then r else []), .bool (typeOk (91 :: r))]
      cases typeOk (91 :: r) <;> rfl
    · unfold elemV elemS elemB
      split
      · rename_i h; injection h with h _; exact absurd h hc
      · split
        · rename_i h; injection h with h _; exact absurd h hc
        · rfl
theorem elemS_len (s : List UInt8) : (elemS s).length ≤ s.length := by
  unfold elemS
  split
  · split
    · simp
    · simp
  · simp
def elemsB (a b : List UInt8) : Bool := refOk (elemS a) && refOk (elemS b)
theorem ev_elems (a b : List UInt8) (ha : a.length ≤ 100000) (hb : b.length ≤ 100000) : ev tab prim 46 [.str a, .str b] [[], []] = some (.tup [.str (elemS a), .str (elemS b), .bool (elemsB a b)], [[], []]) := by
  have h1 := ev44 a ha
  have h2 := ev44 b hb
  have l1 := elemS_len a
  have l2 := elemS_len b
  have h3 := ev48 (elemS a) (by omega)
  have h4 := ev48 (elemS b) (by omega)
  rw [elemV_SB] at h1 h2
  unfold elemsB
  generalize elemS a = x at *
  generalize elemS b = y at *
  rw [ev_fn' tab prim (f := 46) rfl _ _ rfl]
  cases hr : refOk x <;> rw [hr] at h3 <;> simp [h1, h2, h3, h4]
theorem ref_len {s : List UInt8} (h : refOk (elemS s) = true) : (elemS s).length < s.length := by
  unfold elemS at h ⊢
  split at h
  · split at h
    · rename_i ht
      rw [if_pos ht]; simp
    · exact absurd h (by decide)
  · exact absurd h (by decide)

/-! ### Type -/
def tyF (S : List Cls) : Nat → List UInt8 → List UInt8 → Bool
  | 0, _, _ => false
  | n + 1, a, b =>
    if (a == b || (elemB a && classV b == sObject)) = true then true
    else if (classV a != [] && classV b != []) = true then clsF S (classV a) (classV b)
    else if elemsB a b = true then tyF S n (elemS a) (elemS b) else false
def tySt (p : V) (a b : List UInt8) (M : Mem) : St := { env := [(0, p), (1, .str a), (2, .str b)], mem := M }
theorem findKType : findL S19_0 0 = some (.seq .skip K19_0) := by rfl
theorem ty_body (h : ProgAt p S O A) (hO : Num O) (hA : Num A) (F : Mem) (a b : List UInt8) (ha : a.length ≤ 100000) (hb : b.length ≤ 100000) : ∃ x y, Num (O ++ x) ∧ Num (A ++ y) ∧
    cv tab prim K19_0 (tySt p a b (mm ([] :: F) O A)) = some (
      if (a == b || (elemB a && classV b == sObject)) = true then (.ret, { env := [(6, .bool true)], mem := mm ([] :: F) (O ++ x) (A ++ y) })
      else if (classV a != [] && classV b != []) = true then (.ret, { env := [(6, .bool (clsF S (classV a) (classV b)))], mem := mm ([] :: F) (O ++ x) (A ++ y) })
      else if elemsB a b = true then (.goto 0, tySt p (elemS a) (elemS b) (mm ([] :: F) (O ++ x) (A ++ y))) else (.ret, { env := [(6, .bool false)], mem := mm ([] :: F) (O ++ x) (A ++ y) })) := by
  have h1 := ev44 a ha
  rw [elemV_SB] at h1
  have h2 := ev45 a ha
  have h3 := ev45 b hb
  have h4 := ev_elems a b ha hb
  have c0 : ∀ b O A, mm (b :: F) O A = b :: mm F O A := fun _ _ _ => rfl
  unfold sObject
  by_cases g1 : (a == b) = true
  · refine ⟨[], [], by simpa using hO, by simpa using hA, ?_⟩
    rw [if_pos (by rw [g1]; rfl)]
    unfold tySt
    simp only [c0, List.append_nil]
    obtain rfl | ⟨k, rfl⟩ := h.form <;> simp [K19_0, h1, h2, h3, g1]
  have g1' : (a == b) = false := by simpa using g1
  rw [g1', Bool.false_or]
  cases g2 : elemB a && classV b == [79, 98, 106, 101, 99, 116] with
  | true =>
    refine ⟨[], [], by simpa using hO, by simpa using hA, ?_⟩
    rw [if_pos rfl]
    obtain ⟨g3, g4⟩ := (Bool.and_eq_true _ _).mp g2
    rw [g3] at h1
    unfold tySt
    simp only [c0, List.append_nil]
    generalize classV b = cb at *
    generalize classV a = ca at *
    obtain rfl | ⟨k, rfl⟩ := h.form <;> simp [K19_0, h1, h2, h3, g1', g4]
  | false =>
    simp only [Bool.false_eq_true, if_false]
    have g5 : elemB a = false ∨ (elemB a = true ∧ (classV b == [79, 98, 106, 101, 99, 116]) = false) := by
      cases he : elemB a with
      | false => exact .inl rfl
      | true => rw [he, Bool.true_and] at g2; exact .inr ⟨rfl, g2⟩
    cases g6 : classV a != [] && classV b != [] with
    | true =>
      obtain ⟨x, y, hO2, hA2, h5⟩ := at_subClass h hO hA ([] :: F) (classV a) (classV b)
      refine ⟨x, y, hO2, hA2, ?_⟩
      rw [if_pos rfl]
      obtain ⟨g7, g8⟩ := (Bool.and_eq_true _ _).mp g6
      unfold tySt
      simp only [c0] at h5 ⊢
      generalize clsF S (classV a) (classV b) = r at *
      generalize classV b = cb at *
      generalize classV a = ca at *
      have e7 : (ca == []) = false := by simpa [bne] using g7
      have e8 : (cb == []) = false := by simpa [bne] using g8
      clear g6 g7 g8
      rcases g5 with g5 | ⟨g5, g9⟩
      · rw [g5] at h1
        obtain rfl | ⟨k, rfl⟩ := h.form <;> simp [K19_0, h1, h2, h3, g1', e7, e8, h5, bne]
      · rw [g5] at h1
        obtain rfl | ⟨k, rfl⟩ := h.form <;> simp [K19_0, h1, h2, h3, g1', e7, e8, h5, g9, bne]
    | false =>
      refine ⟨[], [], by simpa using hO, by simpa using hA, ?_⟩
      rw [if_neg (by simp)]
      have g7 : (classV a == []) = true ∨ ((classV a == []) = false ∧ (classV b == []) = true) := by
        unfold bne at g6
        cases he : classV a == [] with
        | true => exact .inl rfl
        | false =>
          rw [he] at g6
          right
          simpa using g6
      unfold tySt
      simp only [c0, List.append_nil]
      generalize elemS a = ea at *
      generalize elemS b = eb at *
      generalize elemsB a b = r at *
      generalize classV b = cb at *
      generalize classV a = ca at *
      rcases g5 with g5 | ⟨g5, g9⟩
      · rw [g5] at h1
        rcases g7 with g7 | ⟨g7, g8⟩
        · cases r <;> obtain rfl | ⟨k, rfl⟩ := h.form <;> simp [K19_0, h1, h2, h3, h4, g1', g7, bne]
        · cases r <;> obtain rfl | ⟨k, rfl⟩ := h.form <;> simp [K19_0, h1, h2, h3, h4, g1', g7, g8, bne]
      · rw [g5] at h1
        rcases g7 with g7 | ⟨g7, g8⟩
        · cases r <;> obtain rfl | ⟨k, rfl⟩ := h.form <;> simp [K19_0, h1, h2, h3, h4, g1', g7, g9, bne]
        · cases r <;> obtain rfl | ⟨k, rfl⟩ := h.form <;> simp [K19_0, h1, h2, h3, h4, g1', g7, g8, g9, bne]
theorem ty_go (F : Mem) : ∀ (n : Nat) (a b : List UInt8) (O A : Boxes), ProgAt p S O A → Num O → Num A → a.length < n → a.length ≤ 100000 → b.length ≤ 100000 → ∃ x y, Num (O ++ x) ∧ Num (A ++ y) ∧
    cj tab prim S19_0 (cv tab prim K19_0 (tySt p a b (mm ([] :: F) O A))) = some (.ret, { env := [(6, .bool (tyF S n a b))], mem := mm ([] :: F) (O ++ x) (A ++ y) })
  | 0, a, b, O, A, _, _, _, hn, _, _ => by omega
  | n + 1, a, b, O, A, h, hO, hA, hn, ha, hb => by
    obtain ⟨x, y, hO2, hA2, h1⟩ := ty_body h hO hA F a b ha hb
    rw [h1]
    unfold tyF
    split
    · exact ⟨x, y, hO2, hA2, by simp⟩
    · split
      · exact ⟨x, y, hO2, hA2, by simp⟩
      · split
        · rename_i he
          have hr := (Bool.and_eq_true _ _).mp he
          have hl := ref_len hr.1
          have hl2 := elemS_len b
          obtain ⟨x2, y2, hO3, hA3, h2⟩ := ty_go F n (elemS a) (elemS b) (O ++ x) (A ++ y) (h.more x y) hO2 hA2 (by omega) (by omega) (by omega)
          refine ⟨x ++ x2, y ++ y2, by rw [← List.append_assoc]; exact hO3, by rw [← List.append_assoc]; exact hA3, ?_⟩
          rw [cj_g tab prim S19_0 _ 0 findKType, cv_seq', cv_skip, seqK_n, h2, List.append_assoc, List.append_assoc]
        · exact ⟨x, y, hO2, hA2, by simp⟩
/-- Is a type one of another? -/
def typF (p : V) (S : List Cls) (a b : List UInt8) : Bool := knF p S a && (knF p S b && tyF S (a.length + 1) a b)
theorem at_Type (h : ProgAt p S O A) (hO : Num O) (hA : Num A) (F : Mem) (a b : List UInt8) (ha : a.length ≤ 100000) (hb : b.length ≤ 100000) : ∃ x y, Num (O ++ x) ∧ Num (A ++ y) ∧
    ev tab prim 19 [p, .str a, .str b] (mm F O A) = some (.bool (typF p S a b), mm F (O ++ x) (A ++ y)) := by
  have c0 : ∀ b O A, mm (b :: F) O A = b :: mm F O A := fun _ _ _ => rfl
  have k1 := at_Known h ([] :: F) a ha
  have k2 := at_Known h ([] :: F) b hb
  unfold typF
  rw [c0] at k1 k2
  cases e1 : knF p S a with
  | false =>
    rw [e1] at k1
    refine ⟨[], [], by simpa using hO, by simpa using hA, ?_⟩
    rw [ev_fn' tab prim (f := 19) rfl _ _ rfl]
    obtain rfl | ⟨k, rfl⟩ := h.form <;> simp [S19_0, k1]
  | true =>
    rw [e1] at k1
    cases e2 : knF p S b with
    | false =>
      rw [e2] at k2
      refine ⟨[], [], by simpa using hO, by simpa using hA, ?_⟩
      rw [ev_fn' tab prim (f := 19) rfl _ _ rfl]
      obtain rfl | ⟨k, rfl⟩ := h.form <;> simp [S19_0, k1, k2]
    | true =>
      rw [e2] at k2
      obtain ⟨x, y, hO2, hA2, hg⟩ := ty_go F (a.length + 1) a b O A h hO hA (by omega) ha hb
      refine ⟨x, y, hO2, hA2, ?_⟩
      unfold tySt at hg
      simp only [c0] at hg
      generalize tyF S (a.length + 1) a b = r at *
      rw [ev_fn' tab prim (f := 19) rfl _ _ rfl]
      obtain rfl | ⟨k, rfl⟩ := h.form
      · simp [S19_0] at hg
        simp [S19_0, k1, k2, hg]
      · simp [S19_0] at hg
        simp [S19_0, k1, k2, hg]
end
end Go.Proofs.YtpajgenngpjbaaaGreatDoor.Ev

/- What two classes, two types have above them (subtype). -/
namespace Go.Proofs.YtpajgenngpjbaaaGreatDoor.Ev
open Go

section
variable {p : V} {S : List Cls} {O A : Boxes}
/-! ### Common -/
/-- The nearest class above one that is above another, too. -/
def comO (S : List Cls) (a b : Nm) : Option Nm := (chain S a).find? fun s => (chain S b).contains s
def comF (S : List Cls) (a b : Nm) : Nm :=
  bif !((look S a).isSome && (look S b).isSome) then [] else bif a == b then a
  else bif ((look S a).getD Cls.zero).i || ((look S b).getD Cls.zero).i then sObject else (comO S a b).getD []
/-- One is found, if it is looked for. -/
def ComOk (S : List Cls) (a b : Nm) : Prop := (look S a).isSome = true → (look S b).isSome = true → ((look S a).getD Cls.zero).i = false → ((look S b).getD Cls.zero).i = false → (comO S a b).isSome = true
theorem ev_Common1 (h : ProgAt p S O A) (F : Mem) (s b : Nm) :
    ev tab prim 38 [.str s, .ptr (F.length + 2) 3 0, .cptr [.str b]] ([] :: [(3, [p])] :: mm F O A) = some (.bool ((chain S b).contains s), [] :: [(3, [p])] :: mm F O A) := by
  have hM : (201000 : Nat) ≤ maxLen := by decide
  have h1 := at_Supers h ([] :: [] :: [(3, [p])] :: F) b
  have c0 : ∀ b O A, mm (b :: F) O A = b :: mm F O A := fun _ _ _ => rfl
  have c1 : mm ([] :: [] :: [(3, [p])] :: F) O A = [] :: [] :: [(3, [p])] :: mm F O A := rfl
  rw [c1] at h1
  have hcl := chain_len S b
  have hfew := h.few
  have hS := ev_SContains (chain S b) s (by omega) false
  have e1 : ¬ F.length + 2 = F.length + 2 + 1 := by omega
  have e2 : ¬ F.length + 2 = F.length + 2 + 1 + 1 := by omega
  generalize (chain S b).contains s = r at *
  generalize chain S b = C at *
  rw [ev_fn' tab prim (f := 38) rfl _ _ rfl]
  obtain rfl | ⟨k, rfl⟩ := h.form <;> simp [e1, e2, h1, hS]
theorem at_Common (h : ProgAt p S O A) (F : Mem) (a b : Nm) (hok : ComOk S a b) : ev tab prim 15 [p, .str a, .str b] (mm F O A) = some (.str (comF S a b), mm F O A) := by
  have hl1 := at_Look h ([(3, [p])] :: F) a
  have hl2 := at_Look h ([(3, [p])] :: F) b
  have hSup := at_Supers h ([(3, [p])] :: F) a
  have c0 : mm ([(3, [p])] :: F) O A = [(3, [p])] :: mm F O A := rfl
  rw [c0] at hl1 hl2 hSup
  unfold findV at hl1 hl2
  have hcl := chain_len S a
  have hfew := h.few
  have hI := ev_ixS (chain S a) (by omega) 38 [.ptr (F.length + 2) 3 0, .cptr [.str b]] (fun s => (chain S b).contains s) ([(3, [p])] :: mm F O A) (fun s _ => ev_Common1 h F s b) false
  unfold comF
  unfold ComOk comO at hok
  unfold comO sObject
  have hpf := posP_find (fun s => (chain S b).contains s) (chain S a) 0
  generalize (look S a).isSome = s1 at *
  generalize (look S b).isSome = s2 at *
  generalize (look S a).getD Cls.zero = x at *
  generalize (look S b).getD Cls.zero = y at *
  generalize (fun s => (chain S b).contains s) = pr at *
  generalize chain S a = C at *
  unfold Cls.v Cls.cells at hl1 hl2
  rw [ev_fn' tab prim (f := 15) rfl _ _ rfl]
  cases s1 with
  | false => obtain rfl | ⟨k, rfl⟩ := h.form <;> simp [hl1, hl2]
  | true =>
    cases s2 with
    | false => obtain rfl | ⟨k, rfl⟩ := h.form <;> simp [hl1, hl2]
    | true =>
      cases hab : a == b with
      | true => obtain rfl | ⟨k, rfl⟩ := h.form <;> simp [hl1, hl2, hab]
      | false =>
        cases hi : x.i with
        | true =>
          rw [hi] at hl1
          obtain rfl | ⟨k, rfl⟩ := h.form <;> simp [hl1, hl2, hab]
        | false =>
          rw [hi] at hl1
          cases hj : y.i with
          | true =>
            rw [hj] at hl2
            obtain rfl | ⟨k, rfl⟩ := h.form <;> simp [hl1, hl2, hab]
          | false =>
            rw [hj] at hl2
            have hsome := hok rfl rfl hi hj
            rcases hpf with ⟨q1, q2⟩ | ⟨i, hilt, q1, q2⟩
            · rw [q2] at hsome; cases hsome
            · rw [Nat.zero_add] at q1
              rw [q1] at hI
              unfold posI at hI
              rw [q2]
              have hix : idxOk i C.length = true := by simp [idxOk]; omega
              have hx : (C.map V.str)[i]? = some (.str C[i]) := by simp [hilt]
              have hLen : (C.map V.str).length = C.length := List.length_map ..
              generalize C[i] = g at *
              generalize C.map V.str = Y at *
              obtain rfl | ⟨k, rfl⟩ := h.form <;> simp [hl1, hl2, hab, hSup, hI, hix, hx, hLen]

/-! ### Merge -/
def meF (S : List Cls) : Nat → List UInt8 → List UInt8 → List UInt8 → List UInt8
  | 0, ar, _, _ => ar
  | n + 1, ar, a, b =>
    bif a == b then ar ++ a else bif elemsB a b then meF S n (ar ++ [91]) (elemS a) (elemS b)
    else ar ++ ofV (bif (classV a != []) && (classV b != []) then comF S (classV a) (classV b) else sObject)
def meSt (p : V) (ar a b : List UInt8) (M : Mem) : St := { env := [(0, p), (1, .str a), (2, .str b), (7, .str ar)], mem := M }
theorem findKMerge : findL S21_0 0 = some (.seq .skip K21_0) := by rfl
theorem classV_len (s : List UInt8) : (classV s).length ≤ s.length := by
  unfold classV
  split
  · split
    · simp; omega
    · simp
  · simp
theorem comF_len (hnm : ∀ n, (look S n).isSome = true → n.length ≤ 100000) (a b : Nm) (ha : a.length ≤ 100000) : (comF S a b).length ≤ 100000 := by
  unfold comF
  cases !((look S a).isSome && (look S b).isSome)
  · cases a == b
    · cases ((look S a).getD Cls.zero).i || ((look S b).getD Cls.zero).i
      · simp only [cond_false]
        cases hc : comO S a b with
        | none => simp
        | some s => exact hnm s (chain_mem (List.mem_of_find?_eq_some hc))
      · show sObject.length ≤ 100000
        decide
    · exact ha
  · simp
theorem me_body (h : ProgAt p S O A) (hok : ∀ a b, ComOk S a b) (hnm : ∀ n, (look S n).isSome = true → n.length ≤ 100000) (F : Mem) (ar a b : List UInt8) (har : ar.length ≤ 200000) (ha : a.length ≤ 100000) (hb : b.length ≤ 100000) :
    cv tab prim K21_0 (meSt p ar a b (mm ([] :: F) O A)) = some (
      bif a == b then (.ret, { env := [(6, .str (ar ++ a))], mem := mm ([] :: F) O A })
      else bif elemsB a b then (.goto 0, meSt p (ar ++ [91]) (elemS a) (elemS b) (mm ([] :: F) O A))
      else (.ret, { env := [(6, .str (ar ++ ofV (bif (classV a != []) && (classV b != []) then comF S (classV a) (classV b) else sObject)))], mem := mm ([] :: F) O A })) := by
  have h2 := ev45 a ha
  have h3 := ev45 b hb
  have h4 := ev_elems a b ha hb
  have hca := classV_len a
  have hC := at_Common h ([] :: F) (classV a) (classV b) (hok _ _)
  have c0 : ∀ b O A, mm (b :: F) O A = b :: mm F O A := fun _ _ _ => rfl
  rw [c0] at hC ⊢
  have b1 : ar.length + a.length ≤ 9223372036854775807 := by omega
  have b2 : ar.length + 1 ≤ 9223372036854775807 := by omega
  unfold meSt
  cases g1 : a == b with
  | true => obtain rfl | ⟨k, rfl⟩ := h.form <;> simp [K21_0, g1, b1]
  | false =>
    cases g2 : elemsB a b with
    | true =>
      rw [g2] at h4
      obtain rfl | ⟨k, rfl⟩ := h.form <;> simp [K21_0, g1, h4, b2]
    | false =>
      rw [g2] at h4
      have hol : ∀ s : List UInt8, s.length ≤ 100000 → (ofV s).length ≤ 100002 := by
        intro s hs
        unfold ofV
        split
        · simp; omega
        · simp
      cases e7 : classV a == [] with
      | true =>
        have hO := ev49 [79, 98, 106, 101, 99, 116] (by decide)
        have hl := hol [79, 98, 106, 101, 99, 116] (by decide)
        have b3 : ar.length + (ofV [79, 98, 106, 101, 99, 116]).length ≤ 9223372036854775807 := by omega
        have e0 : (bif (classV a != []) && (classV b != []) then comF S (classV a) (classV b) else sObject) = [79, 98, 106, 101, 99, 116] := by unfold bne; rw [e7]; rfl
        rw [e0]
        generalize ofV [79, 98, 106, 101, 99, 116] = ob at *
        generalize classV a = ca at *
        generalize classV b = cb at *
        obtain rfl | ⟨k, rfl⟩ := h.form <;> simp [K21_0, g1, h2, h3, h4, hO, e7, bne, b3]
      | false =>
        cases e8 : classV b == [] with
        | true =>
          have hO := ev49 [79, 98, 106, 101, 99, 116] (by decide)
          have hl := hol [79, 98, 106, 101, 99, 116] (by decide)
          have b3 : ar.length + (ofV [79, 98, 106, 101, 99, 116]).length ≤ 9223372036854775807 := by omega
          have e0 : (bif (classV a != []) && (classV b != []) then comF S (classV a) (classV b) else sObject) = [79, 98, 106, 101, 99, 116] := by unfold bne; rw [e7, e8]; rfl
          rw [e0]
          generalize ofV [79, 98, 106, 101, 99, 116] = ob at *
          generalize classV a = ca at *
          generalize classV b = cb at *
          obtain rfl | ⟨k, rfl⟩ := h.form <;> simp [K21_0, g1, h2, h3, h4, hO, e7, e8, bne, b3]
        | false =>
          have hcl := comF_len hnm (classV a) (classV b) (by omega)
          have hO := ev49 (comF S (classV a) (classV b)) hcl
          have hl := hol (comF S (classV a) (classV b)) hcl
          have b3 : ar.length + (ofV (comF S (classV a) (classV b))).length ≤ 9223372036854775807 := by omega
          have e0 : (bif (classV a != []) && (classV b != []) then comF S (classV a) (classV b) else sObject) = comF S (classV a) (classV b) := by unfold bne; rw [e7, e8]; rfl
          rw [e0]
          generalize comF S (classV a) (classV b) = cc at *
          generalize ofV cc = ob at *
          generalize classV a = ca at *
          generalize classV b = cb at *
          obtain rfl | ⟨k, rfl⟩ := h.form <;> simp [K21_0, g1, h2, h3, h4, hO, e7, e8, hC, bne, b3]
theorem me_go (h : ProgAt p S O A) (hok : ∀ a b, ComOk S a b) (hnm : ∀ n, (look S n).isSome = true → n.length ≤ 100000) (F : Mem) : ∀ (n : Nat) (ar a b : List UInt8), a.length < n → ar.length + a.length ≤ 100000 → a.length ≤ 100000 → b.length ≤ 100000 →
    cj tab prim S21_0 (cv tab prim K21_0 (meSt p ar a b (mm ([] :: F) O A))) = some (.ret, { env := [(6, .str (meF S n ar a b))], mem := mm ([] :: F) O A })
  | 0, ar, a, b, hn, _, _, _ => by omega
  | n + 1, ar, a, b, hn, har, ha, hb => by
    rw [me_body h hok hnm F ar a b (by omega) ha hb]
    unfold meF
    cases a == b with
    | true => simp
    | false =>
      cases he : elemsB a b with
      | true =>
        have hr := (Bool.and_eq_true _ _).mp he
        have hl := ref_len hr.1
        have hl2 := elemS_len b
        simp only [cond_true, cond_false]
        rw [cj_g tab prim S21_0 _ 0 findKMerge, cv_seq', cv_skip, seqK_n]
        exact me_go h hok hnm F n (ar ++ [91]) (elemS a) (elemS b) (by omega) (by simp; omega) (by omega) (by omega)
      | false => simp
/-- The type that two types have above them. -/
def mrgF (p : V) (S : List Cls) (a b : List UInt8) : List UInt8 := bif knF p S a && (knF p S b && (refOk a && refOk b)) then meF S (a.length + 1) [] a b else []
theorem at_Merge (h : ProgAt p S O A) (hok : ∀ a b, ComOk S a b) (hnm : ∀ n, (look S n).isSome = true → n.length ≤ 100000) (F : Mem) (a b : List UInt8) (ha : a.length ≤ 100000) (hb : b.length ≤ 100000) :
    ev tab prim 21 [p, .str a, .str b] (mm F O A) = some (.str (mrgF p S a b), mm F O A) := by
  have c0 : ∀ b O A, mm (b :: F) O A = b :: mm F O A := fun _ _ _ => rfl
  have k1 := at_Known h ([] :: F) a ha
  have k2 := at_Known h ([] :: F) b hb
  have r1 := ev48 a ha
  have r2 := ev48 b hb
  have hg := me_go h hok hnm F (a.length + 1) [] a b (by omega) (by simpa using ha) ha hb
  unfold meSt at hg
  unfold mrgF
  rw [c0] at k1 k2 hg
  generalize meF S (a.length + 1) [] a b = r at *
  cases e1 : knF p S a with
  | false =>
    rw [e1] at k1
    rw [ev_fn' tab prim (f := 21) rfl _ _ rfl]
    obtain rfl | ⟨k, rfl⟩ := h.form <;> simp [S21_0, k1]
  | true =>
    rw [e1] at k1
    cases e2 : knF p S b with
    | false =>
      rw [e2] at k2
      rw [ev_fn' tab prim (f := 21) rfl _ _ rfl]
      obtain rfl | ⟨k, rfl⟩ := h.form <;> simp [S21_0, k1, k2]
    | true =>
      rw [e2] at k2
      cases e3 : refOk a with
      | false =>
        rw [e3] at r1
        rw [ev_fn' tab prim (f := 21) rfl _ _ rfl]
        obtain rfl | ⟨k, rfl⟩ := h.form <;> simp [S21_0, k1, k2, r1]
      | true =>
        rw [e3] at r1
        cases e4 : refOk b with
        | false =>
          rw [e4] at r2
          rw [ev_fn' tab prim (f := 21) rfl _ _ rfl]
          obtain rfl | ⟨k, rfl⟩ := h.form <;> simp [S21_0, k1, k2, r1, r2]
        | true =>
          rw [e4] at r2
          rw [ev_fn' tab prim (f := 21) rfl _ _ rfl]
          obtain rfl | ⟨k, rfl⟩ := h.form
          · simp [S21_0] at hg
            simp [S21_0, k1, k2, r1, r2, hg]
          · simp [S21_0] at hg
            simp [S21_0, k1, k2, r1, r2, hg]
end
end Go.Proofs.YtpajgenngpjbaaaGreatDoor.Ev

/- How many bytes texts have. -/
namespace Go.Proofs.YtpajgenngpjbaaaGreatDoor.Ev
open Go

/-! ### How many bytes texts have, held -/
def totF (top : Int) : Int → List (List UInt8) → Int
  | n, [] => n
  | n, w :: r => if n ≤ top then totF top (sumF n [(w.length : Int), 1]) r else n
theorem totF_pos (top : Int) : ∀ (ws : List (List UInt8)) (n : Int), 0 ≤ n → 0 ≤ totF top n ws
  | [], n, h => h
  | w :: r, n, h => by
    unfold totF
    split
    · exact totF_pos top r _ (sumF_pos h (by simp))
    · exact h
def toSt (top : Int) (ws : List (List UInt8)) (n : Int) (i : Nat) : St := { env := [(0, .list 1 (ws.map V.str) false), (1, .int .i64 top), (5, .int .i64 n), (6, .int .i64 i)], mem := [[], [], []] }
theorem to_loop (top : Int) (ws : List (List UInt8)) (hw : ws.length ≤ maxLen) : ∀ k i (n : Int), ws.length - i = k → i ≤ ws.length → 0 ≤ n →
    cv tab prim (.loop L27_0) (toSt top ws n i) = some (.exit 0, { env := [(5, .int .i64 (totF top n (ws.drop i)))], mem := [[], [], []] }) := by
  intro k
  induction k with
  | zero =>
    intro i n hk hi hn
    obtain rfl : i = ws.length := by omega
    rw [List.drop_length, cv_loop']
    have e : totF top n [] = n := rfl
    rw [e]
    simp [toSt, L27_0]
  | succ k ih =>
    intro i n hk hi hn
    have hlt : i < ws.length := by omega
    have hd : ws.drop i = ws[i] :: ws.drop (i + 1) := List.drop_eq_getElem_cons hlt
    have hS := ev_Sum n [(ws[i].length : Int), 1] (by simp) hn (by simp) false
    have w1 : IntKind.i64.wrap ((i : Int) + 1) = ((i + 1 : Nat) : Int) := wrap_succ hlt hw
    have g1 : (i : Int) < (ws.length : Int) := by omega
    rw [hd]
    unfold totF
    by_cases hle : n ≤ top
    · rw [if_pos hle, ← ih (i + 1) (sumF n [(ws[i].length : Int), 1]) (by omega) (by omega) (sumF_pos hn (by simp))]
      have hs : cv tab prim L27_0 (toSt top ws n i) = some (.normal, toSt top ws (sumF n [(ws[i].length : Int), 1]) (i + 1)) := by
        unfold toSt
        generalize sumF n [(ws[i].length : Int), 1] = z at *
        simp at hS
        simp [L27_0, idxOk, hlt, g1, hle, hS, w1]
      rw [cv_loop', hs, roundK_n]
    · rw [if_neg hle, cv_loop']
      unfold toSt
      simp [L27_0, hlt, g1, hle]
theorem ev_Total (top : Int) (ws : List (List UInt8)) (hw : ws.length ≤ maxLen) : ev tab prim 27 [.list 1 (ws.map V.str) false, .int .i64 top] [[], []] = some (.int .i64 (totF top 0 ws), [[], []]) := by
  have hL := to_loop top ws hw ws.length 0 0 rfl (Nat.zero_le _) (Int.le_refl _)
  rw [List.drop_zero] at hL
  unfold toSt at hL
  simp only [Int.cast_ofNat_Int] at hL
  generalize totF top 0 ws = z at *
  generalize ws.map V.str = vs at *
  rw [ev_fn' tab prim (f := 27) rfl _ _ rfl]
  simp [hL]
end Go.Proofs.YtpajgenngpjbaaaGreatDoor.Ev

/- subtype's awake; the law SubtypeNothing. -/
namespace Go.Proofs.YtpajgenngpjbaaaGreatDoor.Ev
open Go

/-! ### Programs that are alike -/
theorem Like.knF {S Q : List Cls} (h : Like S Q) (p : V) (t : List UInt8) : knF p S t = knF p Q t := by
  have : knownF S t = knownF Q t := by
    unfold knownF
    congr 1
    funext c
    rw [h.look]
  unfold Ev.knF
  split
  · rfl
  · rw [this]
theorem Like.clsF {S Q : List Cls} (h : Like S Q) (a b : Nm) : clsF S a b = clsF Q a b := by
  unfold Ev.clsF
  rw [h.chain, h.ifcs]
theorem Like.tyF {S Q : List Cls} (h : Like S Q) : ∀ (n : Nat) (a b : List UInt8), tyF S n a b = tyF Q n a b
  | 0, _, _ => rfl
  | n + 1, a, b => by
    unfold Ev.tyF
    rw [h.clsF, h.tyF n]
theorem Like.typF {S Q : List Cls} (h : Like S Q) (p : V) (a b : List UInt8) : typF p S a b = typF p Q a b := by
  unfold Ev.typF
  rw [h.knF, h.knF, h.tyF]
theorem Like.comF {S Q : List Cls} (h : Like S Q) (a b : Nm) : comF S a b = comF Q a b := by
  have : comO S a b = comO Q a b := by
    unfold comO
    rw [h.chain, h.chain]
  unfold Ev.comF
  rw [h.look, h.look, this]
theorem Like.meF {S Q : List Cls} (h : Like S Q) : ∀ (n : Nat) (ar a b : List UInt8), meF S n ar a b = meF Q n ar a b
  | 0, _, _, _ => rfl
  | n + 1, ar, a, b => by
    unfold Ev.meF
    rw [h.comF, h.meF n]
theorem Like.mrgF {S Q : List Cls} (h : Like S Q) (p : V) (a b : List UInt8) : mrgF p S a b = mrgF p Q a b := by
  unfold Ev.mrgF
  rw [h.knF, h.knF, h.meF]
/-- Of a linked program two classes have one above both. -/
theorem comOk_of {S : List Cls} (hK : Kin S) (a b : Nm) : ComOk S a b := by
  intro h1 h2 _ _
  obtain ⟨c, hc⟩ := Option.isSome_iff_exists.1 h1
  obtain ⟨d, hd⟩ := Option.isSome_iff_exists.1 h2
  unfold comO
  rw [List.find?_isSome]
  exact ⟨sObject, List.mem_of_getLast? (hK.last a c hc), by simpa using List.mem_of_getLast? (hK.last b d hd)⟩

theorem sub_k1 : typF (.ptr 0 0 0) (builtins ++ [clA]) [91, 76, 65, 59] [91, 76, 79, 98, 106, 101, 99, 116, 59] = true := by kernel_rfl
theorem sub_k2 : typF (.ptr 0 0 0) (builtins ++ [clA]) [91, 73] [91, 76, 79, 98, 106, 101, 99, 116, 59] = false := by kernel_rfl
theorem sub_k3 : mrgF (.ptr 0 0 0) (builtins ++ [clA]) [76, 65, 59] [76, 84, 97, 115, 107, 59] = [76, 79, 98, 106, 101, 99, 116, 59] := by kernel_rfl
theorem typF_ptr (k : Nat) (S : List Cls) (a b : List UInt8) : typF (.ptr 0 k 0) S a b = typF (.ptr 0 0 0) S a b := rfl
theorem mrgF_ptr (k : Nat) (S : List Cls) (a b : List UInt8) : mrgF (.ptr 0 k 0) S a b = mrgF (.ptr 0 0 0) S a b := rfl
theorem ev_subAwake : ∃ O A, ev tab prim 11 [] [[], []] = some (.bool true, [O, A]) := by
  have hg : GoodL [clA] := goodL_of (by decide) (by decide)
  obtain ⟨x, y, hO, hA, h1⟩ := ev_Classes [clA] (fun _ => hg) [[]] [] [] num_nil num_nil false
  have he : classesE [clA] = none := by rw [classesE_F, fA]
  rw [he] at h1
  obtain ⟨k, t, q, hH, h1⟩ := h1
  simp only [List.nil_append] at hO hA hH h1
  have hd : dblG [clA] = none := by decide
  have hk := prog_like hd
  have hP : ProgAt (.ptr 0 k 0) (prog [clA]) x y := .held k t q rfl hH.any (prog_lim hg)
  have hnm : ∀ n, (look (prog [clA]) n).isSome = true → n.length ≤ 100000 := by
    intro n hn
    obtain ⟨c, hc⟩ := Option.isSome_iff_exists.1 hn
    obtain ⟨h2, rfl⟩ := look_mem hc
    rcases prog_mem.1 h2 with h3 | h3
    · have : ∀ b ∈ builtins, b.n.length ≤ 100000 := by decide
      exact this c h3
    · rw [List.mem_singleton.1 h3]; decide
  obtain ⟨x2, y2, hO2, hA2, t1⟩ := at_Type hP hO hA [[]] [91, 76, 65, 59] [91, 76, 79, 98, 106, 101, 99, 116, 59] (by decide) (by decide)
  obtain ⟨x3, y3, hO3, hA3, t2⟩ := at_Type (hP.more x2 y2) hO2 hA2 [[]] [91, 73] [91, 76, 79, 98, 106, 101, 99, 116, 59] (by decide) (by decide)
  have t3 := at_Merge ((hP.more x2 y2).more x3 y3) (comOk_of (kin_of he)) hnm [[]] [76, 65, 59] [76, 84, 97, 115, 107, 59] (by decide) (by decide)
  rw [hk.typF, typF_ptr, sub_k1] at t1
  rw [hk.typF, typF_ptr, sub_k2] at t2
  rw [hk.mrgF, mrgF_ptr, sub_k3] at t3
  have m0 : ∀ O A, mm [[]] O A = [[], O, A] := fun _ _ => rfl
  simp only [m0, List.append_assoc] at h1 t1 t2 t3
  refine ⟨x ++ (x2 ++ x3), y ++ (y2 ++ y3), ?_⟩
  unfold clA plainC Cls.v Cls.cells sObject at h1
  simp only [List.map_cons, List.map_nil] at h1
  try simp at h1
  rw [ev_fn' tab prim (f := 11) rfl _ _ rfl]
  simp [h1, t1, t2, t3]

/-! ### No program -/
theorem ev_Known_nil (s : List UInt8) (M : Mem) : ev tab prim 17 [.nilp, .str s] M = some (.bool false, M) := by
  rw [ev_fn' tab prim (f := 17) rfl _ _ rfl]
  simp
theorem ev_Type_nil (a b : List UInt8) (M : Mem) : ev tab prim 19 [.nilp, .str a, .str b] M = some (.bool false, M) := by
  have h := ev_Known_nil a ([] :: M)
  rw [ev_fn' tab prim (f := 19) rfl _ _ rfl]
  simp [S19_0, h]
theorem ev_Merge_nil (a b : List UInt8) (M : Mem) : ev tab prim 21 [.nilp, .str a, .str b] M = some (.str [], M) := by
  have h := ev_Known_nil a ([] :: M)
  rw [ev_fn' tab prim (f := 21) rfl _ _ rfl]
  simp [S21_0, h]
theorem ev_lawSubNothing (a b : Nm) : ∃ O A, ev tab prim 7 [.str a, .str b] [[], []] = some (.bool true, [O, A]) := by
  obtain ⟨aO, aA, ha⟩ := ev_subAwake
  have m0 : ∀ O A, mm [[]] O A = [[], O, A] := fun _ _ => rfl
  obtain ⟨n, hT⟩ : ∃ n, ev tab prim 27 [.list 1 [.str a, .str b] false, .int .i64 300] [[], []] = some (.int .i64 n, [[], []]) := ⟨_, ev_Total 300 [a, b] (show 2 ≤ maxLen by decide)⟩
  have h0 : ∀ O A, ProgAt .nilp [] O A := fun _ _ => .nil rfl rfl
  obtain ⟨x, y, hO, hA, h1⟩ := at_subClass (h0 [] []) num_nil num_nil [[]] a b
  have hc : clsF [] a b = false := by
    unfold clsF
    have e : ifcs [] a = [] := by rw [ifcs_N]; rfl
    rw [e]
    simp [sortT, chain, chainG, look]
  rw [hc] at h1
  have h2 := at_Common (h0 ([] ++ x) ([] ++ y)) [[]] a b (fun h => by cases h)
  have e2 : comF [] a b = [] := rfl
  rw [e2] at h2
  have hs : ev tab prim 10 [.list 1 [.str a, .str b] false] [[], []] = some (.bool (decide (n ≤ 300)), [[], []]) := by
    rw [ev_fn' tab prim (f := 10) rfl _ _ rfl]
    simp [hT]
  simp only [m0, List.nil_append] at h1 h2
  by_cases hn : n ≤ 300
  · rw [decide_eq_true hn] at hs
    refine ⟨x, y, ?_⟩
    rw [ev_fn' tab prim (f := 7) rfl _ _ rfl]
    simp [hs, h1, h2, ev_Type_nil, ev_Known_nil, ev_Merge_nil, ha]
  · rw [decide_eq_false hn] at hs
    refine ⟨[], [], ?_⟩
    rw [ev_fn' tab prim (f := 7) rfl _ _ rfl]
    simp [hs, ha]
end Go.Proofs.YtpajgenngpjbaaaGreatDoor.Ev

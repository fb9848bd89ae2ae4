import Derived.Test.YtpajgenngpjbaaaGreatMb
import Derived.Test.YtpajgenngpjbaaaGreatGh
/- Of a program, nil or not: what is asked of it by resolve. -/
namespace Go.Proofs.YtpajgenngpjbaaaGreat.Ev
open Go

/-- A program, nil or in memory. -/
inductive ProgAt (p : V) (S : List Cls) (O A : Boxes) : Prop
  | nil : p = .nilp → S = [] → ProgAt p S O A
  | held (k t q : Nat) : p = .ptr 0 k 0 → Held (mm [] O A) k t q S → Lim S → ProgAt p S O A
theorem ProgAt.form {p : V} {S : List Cls} {O A : Boxes} (h : ProgAt p S O A) : p = .nilp ∨ ∃ k, p = .ptr 0 k 0 := by
  rcases h with ⟨h, _⟩ | ⟨k, t, q, h, _, _⟩
  · exact .inl h
  · exact .inr ⟨k, h⟩
theorem ProgAt.more {p : V} {S : List Cls} {O A : Boxes} (h : ProgAt p S O A) (x y : Boxes) : ProgAt p S (O ++ x) (A ++ y) := by
  rcases h with ⟨h1, h2⟩ | ⟨k, t, q, h1, h2, h3⟩
  · exact .nil h1 h2
  · exact .held k t q h1 (h2.more x y) h3
theorem ProgAt.few {p : V} {S : List Cls} {O A : Boxes} (h : ProgAt p S O A) : S.length ≤ 1000 := by
  rcases h with ⟨_, rfl⟩ | ⟨k, t, q, _, h2, _⟩
  · simp
  · exact h2.few
theorem ProgAt.own {p : V} {S : List Cls} {O A : Boxes} (h : ProgAt p S O A) : ∀ c ∈ S, c.OwnOk := by
  rcases h with ⟨_, rfl⟩ | ⟨k, t, q, _, _, h3⟩
  · intro c hc; cases hc
  · exact h3.own
theorem look_own {S : List Cls} (h : ∀ c ∈ S, c.OwnOk) (nm : Nm) : ((look S nm).getD Cls.zero).OwnOk := by
  cases hk : look S nm with
  | none => exact zero_own
  | some c => exact h c (look_mem hk).1
theorem ProgAt.ifcs_len {p : V} {S : List Cls} {O A : Boxes} (h : ProgAt p S O A) (nm : Nm) : (sortT (ifcs S nm)).length ≤ 200000 := by
  rw [sortT_len]
  rcases h with ⟨_, rfl⟩ | ⟨k, t, q, _, _, h3⟩
  · have : ifcs [] nm = [] := by rw [ifcs_N]; rfl
    rw [this]; simp
  · exact Ev.ifcs_len h3 nm

section
variable {p : V} {S : List Cls} {O A : Boxes}
theorem at_find (h : ProgAt p S O A) (F : Mem) (nm : Nm) : ev tab prim 54 [p, .str nm] (mm F O A) = some (findV (look S nm), mm F O A) := by
  rcases h with ⟨rfl, rfl⟩ | ⟨k, t, q, rfl, hH, _⟩
  · exact ev_find_nil nm _
  · exact ev_find hH.any nm
theorem at_Supers (h : ProgAt p S O A) (F : Mem) (nm : Nm) : ev tab prim 12 [p, .str nm] (mm F O A) = some (.list 1 ((chain S nm).map V.str) true, mm F O A) := by
  rcases h with ⟨rfl, rfl⟩ | ⟨k, t, q, rfl, hH, _⟩
  · exact ev_Supers_nil nm _
  · exact ev_Supers hH.any nm
theorem at_Interfaces (h : ProgAt p S O A) (hO : Num O) (hA : Num A) (F : Mem) (nm : Nm) : ∃ x y, Num (O ++ x) ∧ Num (A ++ y) ∧
    ev tab prim 13 [p, .str nm] (mm F O A) = some (.list 1 ((sortT (ifcs S nm)).map V.str) true, mm F (O ++ x) (A ++ y)) := by
  rcases h with ⟨rfl, rfl⟩ | ⟨k, t, q, rfl, hH, hL⟩
  · have hi : ifcs [] nm = [] := by rw [ifcs_N]; rfl
    have hst : sortT [] = [] := by simp [sortT]
    rw [hi, hst]
    obtain ⟨v, w, h2⟩ := ev_Interfaces_nil' (F := F) hO hA nm
    exact ⟨_, _, hO.add _, hA.add _, h2⟩
  · obtain ⟨v, h1⟩ := ev_Interfaces hO hA (hH.any (F' := F)) hL nm
    exact ⟨_, _, hO.add _, hA.add _, h1⟩
theorem at_Class (h : ProgAt p S O A) (F : Mem) (nm : Nm) : ev tab prim 14 [p, .str nm] (mm F O A) = some (findV (look S nm), mm F O A) := by
  rcases h with ⟨rfl, rfl⟩ | ⟨k, t, q, rfl, hH, hL⟩
  · exact ev_Class_nil nm _
  · exact ev_Class hH.any hL.own nm
theorem at_Look (h : ProgAt p S O A) (F : Mem) (nm : Nm) : ev tab prim 62 [p, .str nm] (mm F O A) = some (findV (look S nm), mm F O A) := by
  have hf := at_find h ([(4, [.str [], .str [], .bool false, .bool false, .list 1 [] true, .list 3 [] true, .list 8 [] true])] :: F) nm
  have c0 : ∀ b O A, mm (b :: F) O A = b :: mm F O A := fun _ _ _ => rfl
  rw [c0] at hf
  unfold findV at hf ⊢
  generalize (look S nm).getD Cls.zero = c at *
  generalize (look S nm).isSome = b at *
  unfold Cls.v Cls.cells at hf ⊢
  rw [ev_fn' tab prim (f := 62) rfl _ _ rfl]
  obtain rfl | ⟨k, rfl⟩ := h.form <;> simp [hf]

/-- A method of a class's own. -/
def metF (S : List Cls) (cls nm d : Nm) : Option Mth := ((look S cls).getD Cls.zero).ms.find? fun m => m.n == nm && m.d == d
def metV (o : Option Mth) : V := .tup [(o.getD mth0).v, .bool o.isSome]
theorem ev_Method1 (m : Mth) (nm d : Nm) (M : Mem) : ev tab prim 104 [m.v, .cptr [.str nm], .cptr [.str d]] M = some (.bool (m.n == nm && m.d == d), M) := by
  unfold Mth.v Mth.cells
  rw [ev_fn' tab prim (f := 104) rfl _ _ rfl]
  cases h1 : m.n == nm <;> simp [h1]
def mzero : List V := [.str [], .str [], .bool false, .bool false, .int .i64 0, .int .i64 0, .list 6 [] true, .list 4 [] true]
theorem at_Method (h : ProgAt p S O A) (F : Mem) (cls nm d : Nm) : ev tab prim 58 [p, .str cls, .str nm, .str d] (mm F O A) = some (metV (metF S cls nm d), mm F O A) := by
  have hf := at_find h ([(8, mzero)] :: F) cls
  have c0 : ∀ b O A, mm (b :: F) O A = b :: mm F O A := fun _ _ _ => rfl
  rw [c0] at hf
  unfold findV at hf
  have hcl := (look_own h.own cls).2.2.1
  unfold metF
  generalize (look S cls).getD Cls.zero = c at *
  generalize (look S cls).isSome = b at *
  have hI := ev_ixM c.ms hcl 104 [.cptr [.str nm], .cptr [.str d]] (fun m => m.n == nm && m.d == d) ([(8, mzero)] :: mm F O A) (fun m _ => ev_Method1 m nm d _) false
  unfold metV
  unfold mzero at hf hI
  rcases posP_find (fun m : Mth => m.n == nm && m.d == d) c.ms 0 with ⟨h1, h2⟩ | ⟨i, hi, h1, h2⟩
  · rw [h1] at hI
    rw [h2]
    unfold posI at hI
    unfold Cls.v Cls.cells at hf
    rw [ev_fn' tab prim (f := 58) rfl _ _ rfl]
    obtain rfl | ⟨k, rfl⟩ := h.form <;> simp [hf, hI, mth0, Mth.v, Mth.cells]
  · rw [h1] at hI
    rw [h2]
    unfold posI at hI
    have hix : idxOk i c.ms.length = true := by simp [idxOk]; omega
    rw [Nat.zero_add] at hI
    have hng : ¬ (i : Int) < 0 := by omega
    have hx : (c.ms.map Mth.v)[i]? = some c.ms[i].v := by simp [hi]
    have hl : (c.ms.map Mth.v).length = c.ms.length := List.length_map ..
    unfold Cls.v Cls.cells at hf
    generalize c.ms[i] = m at *
    generalize c.ms.map Mth.v = X at *
    unfold Mth.v Mth.cells at hx
    rw [ev_fn' tab prim (f := 58) rfl _ _ rfl]
    obtain rfl | ⟨k, rfl⟩ := h.form <;> simp [hf, hI, hix, hl, hng, hx, Mth.v, Mth.cells]

/-- A class's supers, then its interfaces. -/
def aboveL (S : List Cls) (cls : Nm) : List Nm := chain S cls ++ sortT (ifcs S cls)
theorem aboveL_len (h : ProgAt p S O A) (cls : Nm) : (aboveL S cls).length ≤ 201000 := by
  have h1 := chain_len S cls
  have h2 := h.ifcs_len cls
  have h3 := h.few
  unfold aboveL
  rw [List.length_append]
  omega
theorem at_above (h : ProgAt p S O A) (hO : Num O) (hA : Num A) (F : Mem) (cls : Nm) : ∃ x y, Num (O ++ x) ∧ Num (A ++ y) ∧
    ev tab prim 61 [p, .str cls] (mm F O A) = some (.list 1 ((aboveL S cls).map V.str) true, mm F (O ++ x) (A ++ y)) := by
  have h1 := at_Supers h ([] :: F) cls
  obtain ⟨x, y, hO2, hA2, h2⟩ := at_Interfaces h hO hA ([] :: F) cls
  have c0 : ∀ b O A, mm (b :: F) O A = b :: mm F O A := fun _ _ _ => rfl
  simp only [c0] at h1 h2
  have hl := aboveL_len h cls
  refine ⟨x, y, hO2, hA2, ?_⟩
  unfold aboveL at hl ⊢
  rw [List.length_append] at hl
  generalize sortT (ifcs S cls) = I at *
  generalize chain S cls = C at *
  have b1 : C.length ≤ 140737488355328 := by omega
  have b2 : C.length * 16 ≤ 140737488355328 := by omega
  have b3 : C.length + I.length ≤ 140737488355328 := by omega
  have b4 : (C.length + I.length) * 16 ≤ 140737488355328 := by omega
  rw [ev_fn' tab prim (f := 61) rfl _ _ rfl]
  obtain rfl | ⟨k, rfl⟩ := h.form <;> simp [h1, h2, b1, b2, b3, b4]
end
end Go.Proofs.YtpajgenngpjbaaaGreat.Ev

/- What resolve answers: fields, methods, calls. -/
namespace Go.Proofs.YtpajgenngpjbaaaGreat.Ev
open Go

/-! ### slices.Contains of fields -/
theorem ixFld (l : List Fld) (f : Fld) (hl : l.length ≤ 100000) : ∃ j : Int, (0 ≤ j ↔ (l.any fun x => Fld.eq f x) = true) ∧ ev tab prim 107 [.list 3 (l.map Fld.v) false, f.v] [[], []] = some (.int .i64 j, [[], []]) := by
  have hM : (100000 : Nat) ≤ maxLen := by decide
  have hLen : (l.map Fld.v).length = l.length := List.length_map ..
  have hL : ∀ (m i : Nat), i + m = l.length →
      cv tab prim (.loop L107_0) { env := [(0, .list 3 (l.map Fld.v) false), (3, .cptr [.str f.n, .str f.d, .bool f.s]), (7, .int .i64 l.length), (8, .int .i64 (i : Int))], mem := [[], [], []] } =
      some (match posP (fun x => Fld.eq f x) i (l.drop i) with | some p => (.ret, { env := [(4, .int .i64 (p : Int))], mem := [[], [], []] }) | none => (.exit 0, { env := [], mem := [[], [], []] })) := by
    intro m
    induction m with
    | zero =>
      intro i hi
      have h1 : ¬ (i : Int) < (l.length : Int) := by omega
      rw [List.drop_eq_nil_of_le (by omega), cv_loop']
      unfold posP
      simp [L107_0, h1]
    | succ m ih =>
      intro i hi
      have hlt : i < l.length := by omega
      have h1 : (i : Int) < (l.length : Int) := by omega
      have hw := wrap_succ hlt (by omega)
      have hx : (l.map Fld.v)[i]? = some l[i].v := by simp [hlt]
      have hix : idxOk i l.length = true := by simp [idxOk]; omega
      have := ih (i + 1) (by omega)
      rw [List.drop_eq_getElem_cons hlt, posP]
      generalize l.drop (i + 1) = R at *
      generalize l[i] = x at *
      have hr := rseqFld f x false
      rw [cv_loop']
      generalize l.map Fld.v = Y at *
      unfold Fld.v at hx
      cases h : Fld.eq f x with
      | true =>
        rw [h] at hr
        simp [-rSeq, L107_0, h1, hix, hx, hr, hLen]
      | false =>
        simp only [Bool.false_eq_true, if_false]
        rw [← this]
        rw [h] at hr
        simp [-rSeq, L107_0, h1, hix, hx, hw, hr, hLen]
  have h0 := hL l.length 0 (Nat.zero_add _)
  rw [List.drop_zero] at h0
  have hs : (posP (fun x => Fld.eq f x) 0 l).isSome = (l.any fun x => Fld.eq f x) := posP_any _ l 0
  refine ⟨match posP (fun x => Fld.eq f x) 0 l with | some p => (p : Int) | none => -1, ?_, ?_⟩
  · rw [← hs]
    cases posP (fun x => Fld.eq f x) 0 l <;> simp
  · rw [ev_fn' tab prim (f := 107) rfl _ _ rfl]
    generalize l.map Fld.v = Y at *
    unfold Fld.v
    simp only [Int.natCast_zero] at h0
    cases hp : posP (fun x => Fld.eq f x) 0 l with
    | none => rw [hp] at h0; simp [hLen, h0]
    | some p => rw [hp] at h0; simp [hLen, h0]
theorem ev_hasFld (l : List Fld) (f : Fld) (hl : l.length ≤ 100000) : ev tab prim 63 [.list 3 (l.map Fld.v) false, f.v] [[], []] = some (.bool (l.any fun x => Fld.eq f x), [[], []]) := by
  obtain ⟨j, h1, h2⟩ := ixFld l f hl
  unfold Fld.v at h2 ⊢
  have e : decide (0 ≤ j) = (l.any fun x => Fld.eq f x) := by rw [Bool.eq_iff_iff, decide_eq_true_iff]; exact h1
  rw [← e]
  rw [ev_fn' tab prim (f := 63) rfl _ _ rfl]
  simp [h2]

section
variable {p : V} {S : List Cls} {O A : Boxes}
/-! ### Field -/
def fldP (S : List Cls) (f : Fld) (s : Nm) : Bool := ((look S s).getD Cls.zero).fs.any fun x => Fld.eq f x
def fldF (S : List Cls) (cls : Nm) (f : Fld) : Option Nm := (aboveL S cls).find? (fldP S f)
def fieldV (o : Option Nm) : V := .tup [.str (o.getD []), .int .i64 (if o.isSome then 0 else 8)]
theorem findKField : findL S21_0 0 = some (.seq .skip K21_0) := by rfl
theorem fi_found (o : Nm) (M : Mem) : cj tab prim S21_0 (some (.goto 0, { env := [(10, .str o)], mem := M })) = some (.ret, { env := [(10, .str o), (11, .int .i64 0)], mem := M }) := by
  rw [cj_g tab prim S21_0 _ 0 findKField, cv_seq', cv_skip, seqK_n]
  simp [K21_0]
def fiSt (p : V) (f : Fld) (l : List Nm) (i : Nat) (M : Mem) : St := { env := [(0, p), (2, .str f.n), (3, .str f.d), (4, .bool f.s), (16, .list 1 (l.map V.str) true), (17, .int .i64 l.length), (18, .int .i64 (i : Int))], mem := M }
theorem fi_loop (h : ProgAt p S O A) (f : Fld) (F : Mem) (l : List Nm) (hl : l.length ≤ 1000000) : ∀ (m i : Nat), i + m = l.length →
    cv tab prim (.loop L21_0) (fiSt p f l i (mm ([] :: F) O A)) =
      some (match (l.drop i).find? (fldP S f) with | some o => (.goto 0, { env := [(10, .str o)], mem := mm ([] :: F) O A }) | none => (.exit 0, { env := [], mem := mm ([] :: F) O A })) := by
  intro m
  induction m with
  | zero =>
    intro i hi
    have h1 : ¬ (i : Int) < (l.length : Int) := by omega
    rw [List.drop_eq_nil_of_le (by omega), cv_loop']
    unfold fiSt
    obtain rfl | ⟨k, rfl⟩ := h.form <;> simp [L21_0, h1]
  | succ m ih =>
    intro i hi
    have hlt : i < l.length := by omega
    have h1 : (i : Int) < (l.length : Int) := by omega
    have hw : IntKind.i64.wrap ((i : Int) + 1) = ((i + 1 : Nat) : Int) := by rw [wrap_small] <;> omega
    have hx : (l.map V.str)[i]? = some (.str l[i]) := by simp [hlt]
    have hix : idxOk i l.length = true := by simp [idxOk]; omega
    have hLen : (l.map V.str).length = l.length := List.length_map ..
    have ih := ih (i + 1) (by omega)
    have hK := at_Look h ([] :: F) l[i]
    have c0 : ∀ O A, mm ([] :: F) O A = ([] : Boxes) :: mm F O A := fun _ _ => rfl
    rw [c0] at hK ih ⊢
    rw [List.drop_eq_getElem_cons hlt, List.find?_cons]
    have hC := ev_hasFld ((look S l[i]).getD Cls.zero).fs f (look_own h.own l[i]).2.1
    have e : fldP S f l[i] = ((look S l[i]).getD Cls.zero).fs.any fun x => Fld.eq f x := rfl
    rw [← e] at hC
    generalize fldP S f l[i] = b at *
    unfold findV at hK
    generalize (look S l[i]).getD Cls.zero = c at *
    generalize (look S l[i]).isSome = d at *
    unfold Cls.v Cls.cells at hK
    have hfv : f.v = .agg [.str f.n, .str f.d, .bool f.s] := rfl
    rw [hfv] at hC
    generalize c.fs.map Fld.v = W at *
    generalize l[i] = x at *
    rw [cv_loop']
    unfold fiSt at ih ⊢
    generalize l.map V.str = Y at *
    cases b with
    | true => obtain rfl | ⟨k, rfl⟩ := h.form <;> simp [L21_0, h1, hix, hx, hLen, hK, hC]
    | false =>
      simp only
      rw [← ih]
      obtain rfl | ⟨k, rfl⟩ := h.form <;> simp [L21_0, h1, hix, hx, hLen, hK, hC, hw]
theorem at_Field (h : ProgAt p S O A) (hO : Num O) (hA : Num A) (F : Mem) (cls : Nm) (f : Fld) : ∃ x y, Num (O ++ x) ∧ Num (A ++ y) ∧
    ev tab prim 21 [p, .str cls, .str f.n, .str f.d, .bool f.s] (mm F O A) = some (fieldV (fldF S cls f), mm F (O ++ x) (A ++ y)) := by
  obtain ⟨x, y, hO2, hA2, h1⟩ := at_above h hO hA ([] :: F) cls
  have hl := aboveL_len h cls
  have hL := fi_loop (h.more x y) f F (aboveL S cls) (by omega) _ 0 (Nat.zero_add _)
  rw [List.drop_zero] at hL
  have e : (aboveL S cls).find? (fldP S f) = fldF S cls f := rfl
  rw [e] at hL
  refine ⟨x, y, hO2, hA2, ?_⟩
  have hg := fun o => fi_found o (mm ([] :: F) (O ++ x) (A ++ y))
  have c0 : ∀ O A, mm ([] :: F) O A = ([] : Boxes) :: mm F O A := fun _ _ => rfl
  simp only [c0] at h1 hL hg
  unfold fiSt at hL
  unfold fieldV
  simp only [Int.natCast_zero] at hL
  have hLen : ((aboveL S cls).map V.str).length = (aboveL S cls).length := List.length_map ..
  generalize fldF S cls f = o at *
  rw [ev_fn' tab prim (f := 21) rfl _ _ rfl]
  generalize aboveL S cls = Z at *
  cases o with
  | none => obtain rfl | ⟨k, rfl⟩ := h.form <;> simp at h1 hL <;> simp [S21_0, h1, hL]
  | some o =>
    have hg := hg o
    obtain rfl | ⟨k, rfl⟩ := h.form <;> simp at h1 hL <;> simp [S21_0, h1, hL] <;> simp [S21_0] at hg <;> simp [hg]
end
end Go.Proofs.YtpajgenngpjbaaaGreat.Ev

/- What resolve answers: methods, calls, initialisers. -/
namespace Go.Proofs.YtpajgenngpjbaaaGreat.Ev
open Go

theorem list8 {cs : List V} (h : cs.length = 8) : ∃ a b c d e f g i, cs = [a, b, c, d, e, f, g, i] := by
  match cs, h with
  | [a, b, c, d, e, f, g, i], _ => exact ⟨a, b, c, d, e, f, g, i, rfl⟩
section
variable {p : V} {S : List Cls} {O A : Boxes}
/-! ### method -/
/-- Who has a method, and the method. -/
def mthF (S : List Cls) : List Nm → Nm → Nm → Option (Nm × Mth)
  | [], _, _ => none
  | s :: r, nm, d => match metF S s nm d with
    | some m => some (s, m)
    | none => mthF S r nm d
def mthV (o : Option (Nm × Mth)) : V := .tup [.str ((o.map (·.1)).getD []), ((o.map (·.2)).getD mth0).v, .bool o.isSome]
theorem findKMethod : findL S64_0 0 = some (.seq .skip K64_0) := by rfl
theorem me_found (o : Nm) (m : Mth) (F : Mem) (O A : Boxes) : cj tab prim S64_0 (some (.goto 0, { env := [(8, .str o), (9, .ptr (F.length + 2) 9 0)], mem := mm ([(9, m.cells)] :: F) O A })) =
    some (.ret, { env := [(8, .str o), (9, .ptr (F.length + 2) 9 0), (10, .bool true)], mem := mm ([(9, m.cells)] :: F) O A }) := by
  rw [cj_g tab prim S64_0 _ 0 findKMethod, cv_seq', cv_skip, seqK_n]
  have c0 : ∀ b O A, mm (b :: F) O A = b :: mm F O A := fun _ _ _ => rfl
  simp only [c0]
  unfold Mth.cells
  simp [K64_0]
def meSt (p : V) (nm d : Nm) (l : List Nm) (i : Nat) (cs : List V) (F : Mem) (O A : Boxes) : St :=
  { env := [(0, p), (2, .str nm), (3, .str d), (9, .ptr (F.length + 2) 9 0), (13, .list 1 (l.map V.str) true), (14, .int .i64 l.length), (15, .int .i64 (i : Int))], mem := mm ([(9, cs)] :: F) O A }
theorem me_loop (h : ProgAt p S O A) (nm d : Nm) (F : Mem) (l : List Nm) (hl : l.length ≤ 1000000) : ∀ (m i : Nat) (cs : List V), i + m = l.length → cs = mzero ∨ cs = mth0.cells →
    ∃ cs', (cs' = mzero ∨ cs' = mth0.cells) ∧ cv tab prim (.loop L64_0) (meSt p nm d l i cs F O A) =
      some (match mthF S (l.drop i) nm d with | some (o, m) => (.goto 0, { env := [(8, .str o), (9, .ptr (F.length + 2) 9 0)], mem := mm ([(9, m.cells)] :: F) O A }) | none => (.exit 0, { env := [(9, .ptr (F.length + 2) 9 0)], mem := mm ([(9, cs')] :: F) O A })) := by
  intro m
  induction m with
  | zero =>
    intro i cs hi hcs
    refine ⟨cs, hcs, ?_⟩
    have h1 : ¬ (i : Int) < (l.length : Int) := by omega
    rw [List.drop_eq_nil_of_le (by omega), cv_loop']
    unfold meSt mthF
    obtain rfl | ⟨k, rfl⟩ := h.form <;> simp [L64_0, h1]
  | succ m ih =>
    intro i cs hi hcs
    have hlt : i < l.length := by omega
    have h1 : (i : Int) < (l.length : Int) := by omega
    have hw : IntKind.i64.wrap ((i : Int) + 1) = ((i + 1 : Nat) : Int) := by rw [wrap_small] <;> omega
    have hx : (l.map V.str)[i]? = some (.str l[i]) := by simp [hlt]
    have hix : idxOk i l.length = true := by simp [idxOk]; omega
    have hLen : (l.map V.str).length = l.length := List.length_map ..
    have hK := at_Method h ([(9, cs)] :: F) l[i] nm d
    have c0 : ∀ b O A, mm (b :: F) O A = b :: mm F O A := fun _ _ _ => rfl
    have hcl : cs.length = 8 := by rcases hcs with rfl | rfl <;> rfl
    rw [List.drop_eq_getElem_cons hlt, mthF]
    cases hb : metF S l[i] nm d with
    | some b =>
      refine ⟨cs, hcs, ?_⟩
      rw [hb] at hK
      unfold metV at hK
      simp only [Option.getD_some, Option.isSome_some, c0] at hK ⊢
      unfold Mth.v at hK
      unfold Mth.cells at hK ⊢
      generalize l[i] = x at *
      rw [cv_loop']
      unfold meSt
      simp only [c0]
      generalize l.map V.str = Y at *
      obtain ⟨a1, a2, a3, a4, a5, a6, a7, a8, rfl⟩ := list8 hcl
      obtain rfl | ⟨k, rfl⟩ := h.form <;> simp [L64_0, h1, hix, hx, hLen, hK]
    | none =>
      obtain ⟨cs', hc', ih⟩ := ih (i + 1) mth0.cells (by omega) (.inr rfl)
      refine ⟨cs', hc', ?_⟩
      rw [hb] at hK
      simp only
      rw [← ih]
      clear ih
      unfold metV at hK
      simp only [Option.getD_none, Option.isSome_none, c0] at hK ⊢
      unfold mth0 Mth.v at hK
      unfold Mth.cells at hK
      generalize l[i] = x at *
      rw [cv_loop']
      unfold meSt mth0 Mth.cells
      simp only [c0]
      generalize l.map V.str = Y at *
      obtain ⟨a1, a2, a3, a4, a5, a6, a7, a8, rfl⟩ := list8 hcl
      simp at hK
      obtain rfl | ⟨k, rfl⟩ := h.form <;> simp [L64_0, h1, hix, hx, hLen, hK, hw]
theorem at_method (h : ProgAt p S O A) (hO : Num O) (hA : Num A) (F : Mem) (cls nm d : Nm) : ∃ x y, Num (O ++ x) ∧ Num (A ++ y) ∧
    ev tab prim 64 [p, .str cls, .str nm, .str d] (mm F O A) = some (mthV (mthF S (aboveL S cls) nm d), mm F (O ++ x) (A ++ y)) := by
  obtain ⟨x, y, hO2, hA2, h1⟩ := at_above h hO hA ([(9, mzero)] :: F) cls
  have hl := aboveL_len h cls
  obtain ⟨cs', hc', hL⟩ := me_loop (h.more x y) nm d F (aboveL S cls) (by omega) _ 0 mzero (Nat.zero_add _) (.inl rfl)
  rw [List.drop_zero] at hL
  refine ⟨x, y, hO2, hA2, ?_⟩
  have c0 : ∀ b O A, mm (b :: F) O A = b :: mm F O A := fun _ _ _ => rfl
  unfold meSt at hL
  unfold mthV
  simp only [Int.natCast_zero, c0] at hL h1
  unfold mzero at hL h1
  have hcl : cs'.length = 8 := by rcases hc' with rfl | rfl <;> rfl
  obtain ⟨a1, a2, a3, a4, a5, a6, a7, a8, hcs⟩ := list8 hcl
  cases ho : mthF S (aboveL S cls) nm d with
  | none =>
    rw [ho] at hL
    rw [ev_fn' tab prim (f := 64) rfl _ _ rfl]
    generalize aboveL S cls = Z at *
    rw [hcs] at hL
    obtain rfl | ⟨k, rfl⟩ := h.form <;> (try simp at h1) <;> (try simp at hL) <;> simp [S64_0, h1, hL, mth0, Mth.v, Mth.cells]
  | some om =>
    obtain ⟨o, m⟩ := om
    rw [ho] at hL
    have hg := me_found o m F (O ++ x) (A ++ y)
    rw [ev_fn' tab prim (f := 64) rfl _ _ rfl]
    generalize aboveL S cls = Z at *
    simp only [c0] at hg hL
    unfold Mth.cells at hL hg
    unfold Mth.v Mth.cells
    obtain rfl | ⟨k, rfl⟩ := h.form <;> (try simp at h1) <;> (try simp at hL) <;> simp [S64_0, h1, hL] <;> simp [S64_0] at hg <;> simp [hg]
end
end Go.Proofs.YtpajgenngpjbaaaGreat.Ev

/- resolve: Method, may, Look, Call, Dispatch, Clinit, Initializes. -/
namespace Go.Proofs.YtpajgenngpjbaaaGreat.Ev
open Go

section
variable {p : V} {S : List Cls} {O A : Boxes}
theorem metF_own (h : ∀ c ∈ S, c.OwnOk) {cls nm d : Nm} {m : Mth} (hm : metF S cls nm d = some m) : m.code.length ≤ 100000 ∧ m.hs.length ≤ 100000 := by
  have h1 := List.mem_of_find?_eq_some hm
  exact (look_own h cls).2.2.2 m h1
theorem mthF_own (h : ∀ c ∈ S, c.OwnOk) : ∀ {l : List Nm} {nm d o : Nm} {m : Mth}, mthF S l nm d = some (o, m) → m.code.length ≤ 100000 ∧ m.hs.length ≤ 100000
  | [], _, _, _, _, hm => by cases hm
  | s :: r, nm, d, o, m, hm => by
    unfold mthF at hm
    cases hs : metF S s nm d with
    | some m' => rw [hs] at hm; cases hm; exact metF_own h hs
    | none => rw [hs] at hm; exact mthF_own h hm
def methodV (o : Option (Nm × Mth)) : V := .tup [.str ((o.map (·.1)).getD []), ((o.map (·.2)).getD mth0).v, .int .i64 (if o.isSome then 0 else 8)]
theorem at_rMethod (h : ProgAt p S O A) (hO : Num O) (hA : Num A) (F : Mem) (cls nm d : Nm) : ∃ x y, Num (O ++ x) ∧ Num (A ++ y) ∧
    ev tab prim 22 [p, .str cls, .str nm, .str d] (mm F O A) = some (methodV (mthF S (aboveL S cls) nm d), mm F (O ++ x) (A ++ y)) := by
  obtain ⟨x, y, hO2, hA2, h1⟩ := at_method h hO hA ([(9, mzero)] :: F) cls nm d
  refine ⟨x, y, hO2, hA2, ?_⟩
  have c0 : ∀ b O A, mm (b :: F) O A = b :: mm F O A := fun _ _ _ => rfl
  simp only [c0] at h1
  unfold mzero mthV at h1
  unfold methodV
  cases ho : mthF S (aboveL S cls) nm d with
  | none =>
    rw [ho] at h1
    simp only [Option.map_none, Option.getD_none, Option.isSome_none] at h1 ⊢
    unfold mth0 Mth.v Mth.cells at h1 ⊢
    simp at h1
    rw [ev_fn' tab prim (f := 22) rfl _ _ rfl]
    obtain rfl | ⟨k, rfl⟩ := h.form <;> simp [h1]
  | some om =>
    obtain ⟨o, m⟩ := om
    have hw := mthF_own h.own ho
    have hOM := ev_OwnMethod m hw.1 hw.2
    rw [ho] at h1
    simp only [Option.map_some, Option.getD_some, Option.isSome_some] at h1 ⊢
    unfold Mth.v at h1 hOM ⊢
    unfold Mth.cells at h1 hOM ⊢
    rw [ev_fn' tab prim (f := 22) rfl _ _ rfl]
    obtain rfl | ⟨k, rfl⟩ := h.form <;> simp [h1, hOM]

/-! ### Calls -/
def sInit : Nm := [60, 105, 110, 105, 116, 62]
def mayF (S : List Cls) (x : Ins) (o : Nm) (m : Mth) : Bool :=
  bif x.o == 32 then m.s else bif x.o == 33 then !m.s && (!m.a && (x.n != sInit || o == x.c))
  else bif x.o == 34 then !m.s && !((look S x.c).getD Cls.zero).i else bif x.o == 35 then !m.s && ((look S x.c).getD Cls.zero).i else false
theorem at_may (h : ProgAt p S O A) (F : Mem) (x : Ins) (o : Nm) (m : Mth) : ev tab prim 108 [p, x.v, .str o, m.v] (mm F O A) = some (.bool (mayF S x o m), mm F O A) := by
  have hf := at_Look h ([] :: F) x.c
  have c0 : ∀ b O A, mm (b :: F) O A = b :: mm F O A := fun _ _ _ => rfl
  rw [c0] at hf
  unfold findV at hf
  unfold mayF sInit
  generalize (look S x.c).getD Cls.zero = c at *
  generalize (look S x.c).isSome = b at *
  unfold Cls.v Cls.cells at hf
  unfold Ins.v Mth.v Mth.cells
  rw [ev_fn' tab prim (f := 108) rfl _ _ rfl]
  cases h1 : x.o == 32 with
  | true => obtain rfl | ⟨k, rfl⟩ := h.form <;> simp [hf, h1]
  | false =>
    cases h2 : x.o == 33 with
    | true => cases h3 : m.s <;> cases h4 : m.a <;> cases h5 : x.n == [60, 105, 110, 105, 116, 62] <;> obtain rfl | ⟨k, rfl⟩ := h.form <;> simp [hf, h1, h2, h5, bne]
    | false =>
      cases h3 : x.o == 34 with
      | true => cases h4 : m.s <;> obtain rfl | ⟨k, rfl⟩ := h.form <;> simp [hf, h1, h2, h3]
      | false =>
        cases h4 : x.o == 35 with
        | true => cases h5 : m.s <;> obtain rfl | ⟨k, rfl⟩ := h.form <;> simp [hf, h1, h2, h3, h4]
        | false => obtain rfl | ⟨k, rfl⟩ := h.form <;> simp [hf, h1, h2, h3, h4]
/-- What a call names. -/
def lookF (S : List Cls) (x : Ins) : Option (Nm × Mth) := match mthF S (aboveL S x.c) x.n x.d with
  | some (o, m) => if mayF S x o m = true then some (o, m) else none
  | none => none
theorem at_rLook (h : ProgAt p S O A) (hO : Num O) (hA : Num A) (F : Mem) (x : Ins) : ∃ x1 y1, Num (O ++ x1) ∧ Num (A ++ y1) ∧
    ev tab prim 65 [p, x.v] (mm F O A) = some (mthV (lookF S x), mm F (O ++ x1) (A ++ y1)) := by
  obtain ⟨x1, y1, hO2, hA2, h1⟩ := at_method h hO hA ([(5, mzero)] :: F) x.c x.n x.d
  refine ⟨x1, y1, hO2, hA2, ?_⟩
  have c0 : ∀ b O A, mm (b :: F) O A = b :: mm F O A := fun _ _ _ => rfl
  simp only [c0] at h1
  unfold mzero at h1
  unfold lookF
  cases ho : mthF S (aboveL S x.c) x.n x.d with
  | none =>
    rw [ho] at h1
    unfold mthV mth0 at h1 ⊢
    simp only [Option.map_none, Option.getD_none, Option.isSome_none] at h1 ⊢
    unfold Mth.v Mth.cells at h1 ⊢
    simp at h1
    unfold Ins.v
    rw [ev_fn' tab prim (f := 65) rfl _ _ rfl]
    obtain rfl | ⟨k, rfl⟩ := h.form <;> simp [h1]
  | some om =>
    obtain ⟨o, m⟩ := om
    have hm := at_may (h.more x1 y1) ([(5, m.cells)] :: F) x o m
    rw [c0] at hm
    rw [ho] at h1
    simp only
    unfold mthV at h1 ⊢
    simp only [Option.map_some, Option.getD_some, Option.isSome_some] at h1
    unfold Ins.v at hm ⊢
    unfold Mth.v at h1 hm
    unfold Mth.cells at h1 hm
    rw [ev_fn' tab prim (f := 65) rfl _ _ rfl]
    cases hb : mayF S x o m with
    | true =>
      rw [hb] at hm
      rw [if_pos rfl]
      simp only [Option.map_some, Option.getD_some, Option.isSome_some]
      unfold Mth.v Mth.cells
      obtain rfl | ⟨k, rfl⟩ := h.form <;> simp [h1, hm]
    | false =>
      rw [hb] at hm
      rw [if_neg (by simp)]
      simp only [Option.map_none, Option.getD_none, Option.isSome_none]
      unfold mth0 Mth.v Mth.cells
      obtain rfl | ⟨k, rfl⟩ := h.form <;> simp [h1, hm]
theorem lookF_own (h : ∀ c ∈ S, c.OwnOk) {x : Ins} {o : Nm} {m : Mth} (hm : lookF S x = some (o, m)) : m.code.length ≤ 100000 ∧ m.hs.length ≤ 100000 := by
  unfold lookF at hm
  cases ho : mthF S (aboveL S x.c) x.n x.d with
  | none => rw [ho] at hm; cases hm
  | some om =>
    obtain ⟨o', m'⟩ := om
    rw [ho] at hm
    simp only at hm
    split at hm
    · cases hm; exact mthF_own h ho
    · cases hm
theorem at_Call (h : ProgAt p S O A) (hO : Num O) (hA : Num A) (F : Mem) (x : Ins) : ∃ x1 y1, Num (O ++ x1) ∧ Num (A ++ y1) ∧
    ev tab prim 24 [p, x.v] (mm F O A) = some (methodV (lookF S x), mm F (O ++ x1) (A ++ y1)) := by
  obtain ⟨x1, y1, hO2, hA2, h1⟩ := at_rLook h hO hA ([(5, mzero)] :: F) x
  refine ⟨x1, y1, hO2, hA2, ?_⟩
  have c0 : ∀ b O A, mm (b :: F) O A = b :: mm F O A := fun _ _ _ => rfl
  simp only [c0] at h1
  unfold mzero mthV Ins.v at h1
  unfold methodV Ins.v
  cases ho : lookF S x with
  | none =>
    rw [ho] at h1
    simp only [Option.map_none, Option.getD_none, Option.isSome_none] at h1 ⊢
    unfold mth0 Mth.v Mth.cells at h1 ⊢
    simp at h1
    rw [ev_fn' tab prim (f := 24) rfl _ _ rfl]
    obtain rfl | ⟨k, rfl⟩ := h.form <;> simp [h1]
  | some om =>
    obtain ⟨o, m⟩ := om
    have hw := lookF_own h.own ho
    have hOM := ev_OwnMethod m hw.1 hw.2
    rw [ho] at h1
    simp only [Option.map_some, Option.getD_some, Option.isSome_some] at h1 ⊢
    unfold Mth.v at h1 hOM ⊢
    unfold Mth.cells at h1 hOM ⊢
    rw [ev_fn' tab prim (f := 24) rfl _ _ rfl]
    obtain rfl | ⟨k, rfl⟩ := h.form <;> simp [h1, hOM]

/-! ### Dispatch -/
def dspF (S : List Cls) (cls nm d : Nm) : Option (Nm × Mth) := (hasP S cls nm d).map fun o => (o, (metF S o nm d).getD mth0)
theorem at_Dispatch (h : ProgAt p S O A) (F : Mem) (cls nm d : Nm) : ev tab prim 15 [p, .str cls, .str nm, .str d] (mm F O A) = some (mthV (dspF S cls nm d), mm F O A) := by
  rcases h with ⟨rfl, rfl⟩ | ⟨k, t, q, rfl, hH, hL⟩
  · have : dspF [] cls nm d = none := rfl
    rw [this]
    unfold mthV mth0
    simp only [Option.map_none, Option.getD_none, Option.isSome_none]
    unfold Mth.v Mth.cells
    rw [ev_fn' tab prim (f := 15) rfl _ _ rfl]
    simp
  · have h := ProgAt.held k t q rfl hH hL
    have hP := ev_PHas (hH.any (F' := [(9, mzero)] :: F)) (fun c hc => (hL.own c hc).2.2.1) cls nm d
    have c0 : ∀ b O A, mm (b :: F) O A = b :: mm F O A := fun _ _ _ => rfl
    rw [c0] at hP
    unfold dspF
    unfold mthV
    cases ho : hasP S cls nm d with
    | none =>
      rw [ho] at hP
      simp only [Option.map_none, Option.getD_none, Option.isSome_none] at hP ⊢
      unfold mth0 Mth.v Mth.cells
      unfold mzero at hP
      rw [ev_fn' tab prim (f := 15) rfl _ _ rfl]
      simp [hP]
    | some o =>
      have hM := at_Method h ([(9, mzero)] :: F) o nm d
      have hw : ((metF S o nm d).getD mth0).code.length ≤ 100000 ∧ ((metF S o nm d).getD mth0).hs.length ≤ 100000 := by
        cases hm : metF S o nm d with
        | none => exact ⟨by decide, by decide⟩
        | some m => exact metF_own hL.own hm
      have hOM := ev_OwnMethod _ hw.1 hw.2
      rw [c0] at hM
      unfold metV at hM
      rw [ho] at hP
      simp only [Option.map_some, Option.getD_some, Option.isSome_some] at hP ⊢
      generalize (metF S o nm d).getD mth0 = m at *
      generalize (metF S o nm d).isSome = b at *
      unfold mzero at hP hM
      unfold Mth.v at hM hOM ⊢
      unfold Mth.cells at hM hOM ⊢
      rw [ev_fn' tab prim (f := 15) rfl _ _ rfl]
      simp [hP, hM, hOM]
theorem at_Clinit (h : ProgAt p S O A) (F : Mem) (cls : Nm) : ev tab prim 32 [p, .str cls] (mm F O A) = some (.bool (metF S cls sClinit [40, 41, 86]).isSome, mm F O A) := by
  have hM := at_Method h ([] :: F) cls sClinit [40, 41, 86]
  have c0 : ∀ b O A, mm (b :: F) O A = b :: mm F O A := fun _ _ _ => rfl
  rw [c0] at hM
  unfold metV at hM
  unfold sClinit at hM ⊢
  generalize (metF S cls [60, 99, 108, 105, 110, 105, 116, 62] [40, 41, 86]).getD mth0 = m at *
  generalize (metF S cls [60, 99, 108, 105, 110, 105, 116, 62] [40, 41, 86]).isSome = b at *
  unfold Mth.v Mth.cells at hM
  rw [ev_fn' tab prim (f := 32) rfl _ _ rfl]
  obtain rfl | ⟨k, rfl⟩ := h.form <;> simp [hM]
theorem ev_Native (o : Nm) : ev tab prim 36 [.str o] [[], []] = some (.bool (o == sSys), [[], []]) := by
  unfold sSys
  rw [ev_fn' tab prim (f := 36) rfl _ _ rfl]
  simp

/-! ### Initializes -/
def ini0 (S : List Cls) (x : Ins) : Nm :=
  bif x.o == 21 then (bif (look S x.c).isSome then x.c else []) else bif (x.o == 24) || (x.o == 25) then (fldF S x.c ⟨x.n, x.d, true⟩).getD []
  else bif x.o == 32 then ((lookF S x).map (·.1)).getD [] else []
def iniF (S : List Cls) (x : Ins) : Nm := bif (ini0 S x == sSys) && (x.o == 32) then [] else ini0 S x
theorem at_Initializes (h : ProgAt p S O A) (hO : Num O) (hA : Num A) (F : Mem) (x : Ins) : ∃ x1 y1, Num (O ++ x1) ∧ Num (A ++ y1) ∧
    ev tab prim 34 [p, x.v] (mm F O A) = some (.str (iniF S x), mm F (O ++ x1) (A ++ y1)) := by
  have c0 : ∀ b O A, mm (b :: F) O A = b :: mm F O A := fun _ _ _ => rfl
  unfold iniF
  have hN := ev_Native (ini0 S x)
  unfold ini0 at hN ⊢
  unfold Ins.v
  cases h1 : x.o == 21 with
  | true =>
    have hf := at_Look h ([] :: F) x.c
    rw [c0] at hf
    unfold findV at hf
    rw [h1] at hN
    have h32 : (x.o == 32) = false := by
      rw [beq_iff_eq] at h1
      rw [h1]; rfl
    refine ⟨[], [], by simpa using hO, by simpa using hA, ?_⟩
    generalize (look S x.c).getD Cls.zero = c at *
    unfold Cls.v Cls.cells at hf
    cases hb : (look S x.c).isSome with
    | true =>
      rw [hb] at hf hN
      simp only [cond_true] at hN
      rw [ev_fn' tab prim (f := 34) rfl _ _ rfl]
      cases hs : x.c == sSys <;> rw [hs] at hN <;> obtain rfl | ⟨k, rfl⟩ := h.form <;> simp [h1, hf, hN, h32]
    | false =>
      rw [hb] at hf hN
      have e0 : (([] : Nm) == sSys) = false := rfl
      simp only [cond_true, cond_false, e0] at hN
      rw [ev_fn' tab prim (f := 34) rfl _ _ rfl]
      obtain rfl | ⟨k, rfl⟩ := h.form <;> simp [h1, hf, hN, h32]
  | false =>
    rw [h1] at hN
    cases h2 : (x.o == 24) || (x.o == 25) with
    | true =>
      obtain ⟨x1, y1, hO2, hA2, hf⟩ := at_Field h hO hA ([] :: F) x.c ⟨x.n, x.d, true⟩
      simp only [c0] at hf
      unfold fieldV at hf
      rw [h2] at hN
      have h32 : (x.o == 32) = false := by
        rw [Bool.or_eq_true, beq_iff_eq, beq_iff_eq] at h2
        rcases h2 with h2 | h2 <;> rw [h2] <;> rfl
      refine ⟨x1, y1, hO2, hA2, ?_⟩
      simp only [cond_true, cond_false] at hN
      generalize (fldF S x.c ⟨x.n, x.d, true⟩).getD [] = o at *
      generalize (if (fldF S x.c ⟨x.n, x.d, true⟩).isSome = true then (0 : Int) else 8) = e at *
      rw [ev_fn' tab prim (f := 34) rfl _ _ rfl]
      cases h3 : x.o == 24 with
      | true => cases hs : o == sSys <;> rw [hs] at hN <;> obtain rfl | ⟨k, rfl⟩ := h.form <;> simp [h1, h3, hf, hN, h32]
      | false =>
        have h4 : (x.o == 25) = true := by rw [h3, Bool.false_or] at h2; exact h2
        cases hs : o == sSys <;> rw [hs] at hN <;> obtain rfl | ⟨k, rfl⟩ := h.form <;> simp [h1, h3, h4, hf, hN, h32]
    | false =>
      rw [h2] at hN
      obtain ⟨h3, h4⟩ := Bool.or_eq_false_iff.1 h2
      cases h5 : x.o == 32 with
      | true =>
        obtain ⟨x1, y1, hO2, hA2, hf⟩ := at_rLook h hO hA ([] :: F) x
        simp only [c0] at hf
        unfold mthV Ins.v at hf
        rw [h5] at hN
        refine ⟨x1, y1, hO2, hA2, ?_⟩
        simp only [cond_true, cond_false] at hN
        generalize ((lookF S x).map (·.1)).getD [] = o at *
        generalize ((lookF S x).map (·.2)).getD mth0 = m at *
        generalize (lookF S x).isSome = b at *
        unfold Mth.v Mth.cells at hf
        rw [ev_fn' tab prim (f := 34) rfl _ _ rfl]
        cases hs : o == sSys <;> rw [hs] at hN <;> obtain rfl | ⟨k, rfl⟩ := h.form <;> simp [h1, h3, h4, h5, hf, hN, hs]
      | false =>
        rw [h5] at hN
        refine ⟨[], [], by simpa using hO, by simpa using hA, ?_⟩
        have e0 : (([] : Nm) == sSys) = false := rfl
        simp only [cond_false, e0] at hN
        rw [ev_fn' tab prim (f := 34) rfl _ _ rfl]
        obtain rfl | ⟨k, rfl⟩ := h.form <;> simp [h1, h3, h4, h5, hN]
end
end Go.Proofs.YtpajgenngpjbaaaGreat.Ev

/- resolve's awake; the law ResolveNothing. -/
namespace Go.Proofs.YtpajgenngpjbaaaGreat.Ev
open Go

def runM : Mth := ⟨[114, 117, 110], [40, 41, 86], false, false, 0, 1, [retI], []⟩
def clR : Cls := ⟨[65], sObject, false, false, [sTask], [], [runM]⟩
theorem fR : classesF [clR] = none := by kernel_rfl
theorem hasR : hasP (builtins ++ [clR]) [65] [114, 117, 110] [40, 41, 86] = some [65] := by kernel_rfl
theorem ev_resAwake : ∃ O A, ev tab prim 9 [] [[], []] = some (.bool true, [O, A]) := by
  have hg : GoodL [clR] := goodL_of (by decide) (by decide)
  obtain ⟨x, y, hO, hA, h1⟩ := ev_Classes [clR] (fun _ => hg) [[]] [] [] num_nil num_nil false
  rw [classesE_F, fR] at h1
  obtain ⟨k, t, q, hH, h1⟩ := h1
  simp only [List.nil_append] at hO hA hH h1
  have hd : dblG [clR] = none := by decide
  have hAt : ProgAt (.ptr 0 k 0) (prog [clR]) x y := .held k t q rfl hH.any (prog_lim hg)
  have h2 := at_Dispatch hAt [[]] [65] [114, 117, 110] [40, 41, 86]
  have hh : hasP (prog [clR]) [65] [114, 117, 110] [40, 41, 86] = some [65] := by rw [(prog_like hd).hasP]; exact hasR
  unfold dspF at h2
  rw [hh] at h2
  unfold mthV at h2
  simp only [Option.map_some, Option.getD_some, Option.isSome_some] at h2
  generalize (metF (prog [clR]) [65] [114, 117, 110] [40, 41, 86]).getD mth0 = m at *
  have n1 := ev_Native [83, 121, 115]
  have n2 := ev_Native [65]
  have e1 : (([83, 121, 115] : Nm) == sSys) = true := rfl
  have e2 : (([65] : Nm) == sSys) = false := rfl
  rw [e1] at n1
  rw [e2] at n2
  have m0 : ∀ O A, mm [[]] O A = [[], O, A] := fun _ _ => rfl
  rw [m0] at h1 h2
  rw [m0] at h1
  refine ⟨x, y, ?_⟩
  unfold clR runM sTask retI at h1
  unfold Cls.v Cls.cells sObject at h1
  unfold Mth.v Mth.cells at h2
  simp [Mth.v, Mth.cells, Ins.v] at h1
  try simp only [List.map_cons, List.map_nil] at h1
  rw [ev_fn' tab prim (f := 9) rfl _ _ rfl]
  simp [h1, h2, n1, n2]

theorem num0 : Num ([] : Boxes) := num_nil
theorem ev_lawNothing (cls nm d : Nm) (x : Ins) : ∃ O A, ev tab prim 7 [.str cls, .str nm, .str d, x.v] [[], []] = some (.bool true, [O, A]) := by
  obtain ⟨aO, aA, ha⟩ := ev_resAwake
  have hi := ev_InstrSize x
  have hs := ev_Sum (cls.length : Int) [(nm.length : Int), (d.length : Int), x.size] (by simp) (by omega) (by simp; exact x.size_pos) false
  have h0 : ∀ O A, ProgAt .nilp [] O A := fun _ _ => .nil rfl rfl
  have m0 : ∀ O A, mm [[]] O A = [[], O, A] := fun _ _ => rfl
  have r1 : fldF [] cls ⟨nm, d, true⟩ = none := by
    unfold fldF aboveL
    rw [ifcs_N]
    have : sortT (ifcsN [] cls) = [] := by
      have e : ifcsN [] cls = [] := rfl
      rw [e]; simp [sortT]
    rw [this]; rfl
  have hab : ∀ c, aboveL [] c = [] := fun c => by
    unfold aboveL
    rw [ifcs_N]
    have : sortT (ifcsN [] c) = [] := by
      have e : ifcsN [] c = [] := rfl
      rw [e]; simp [sortT]
    rw [this]; rfl
  have r2 : mthF [] (aboveL [] cls) nm d = none := by rw [hab]; rfl
  have r3 : lookF [] x = none := by unfold lookF; rw [hab]; rfl
  have r4 : dspF [] cls nm d = none := rfl
  have r6 : iniF [] x = [] := by
    unfold iniF
    have : ini0 [] x = [] := by
      unfold ini0
      have e1 : (look [] x.c).isSome = false := rfl
      have e2 : fldF [] x.c ⟨x.n, x.d, true⟩ = none := by unfold fldF; rw [hab]; rfl
      rw [e1, e2, r3]
      cases x.o == 21 <;> cases (x.o == 24) || (x.o == 25) <;> cases x.o == 32 <;> rfl
    rw [this]; rfl
  have r5 : (metF [] cls sClinit [40, 41, 86]).isSome = false := rfl
  obtain ⟨x1, y1, hO1, hA1, h1⟩ := at_Field (h0 [] []) num0 num0 [[]] cls ⟨nm, d, true⟩
  obtain ⟨x2, y2, hO2, hA2, h2⟩ := at_rMethod (h0 _ _) hO1 hA1 [[]] cls nm d
  obtain ⟨x3, y3, hO3, hA3, h3⟩ := at_Call (h0 _ _) hO2 hA2 [[]] x
  have h4 := at_Dispatch (h0 ([] ++ x1 ++ x2 ++ x3) ([] ++ y1 ++ y2 ++ y3)) [[]] cls nm d
  have h5 := at_Clinit (h0 ([] ++ x1 ++ x2 ++ x3) ([] ++ y1 ++ y2 ++ y3)) [[]] cls
  obtain ⟨x6, y6, hO6, hA6, h6⟩ := at_Initializes (h0 _ _) hO3 hA3 [[]] x
  rw [r1] at h1
  rw [r2] at h2
  rw [r3] at h3
  rw [r4] at h4
  rw [r5] at h5
  rw [r6] at h6
  simp only [m0, List.nil_append] at h1 h2 h3 h4 h5 h6
  unfold fieldV at h1
  unfold methodV at h2 h3
  unfold mthV at h4
  simp only [Option.map_none, Option.getD_none, Option.isSome_none] at h1 h2 h3 h4
  unfold mth0 Mth.v Mth.cells at h2 h3 h4
  unfold Ins.v at hi h3 h6 ⊢
  simp at h1 h2 h3 h4 hs
  simp only [List.append_assoc] at h5 h6
  by_cases hb : 500 < sumF (cls.length : Int) [(nm.length : Int), (d.length : Int), x.size]
  · refine ⟨[], [], ?_⟩
    rw [ev_fn' tab prim (f := 7) rfl _ _ rfl]
    simp [hi, hs, hb, ha]
  · refine ⟨x1 ++ (x2 ++ (x3 ++ x6)), y1 ++ (y2 ++ (y3 ++ y6)), ?_⟩
    rw [ev_fn' tab prim (f := 7) rfl _ _ rfl]
    simp [hi, hs, hb, ha, h1, h2, h3, h4, h5, h6]
end Go.Proofs.YtpajgenngpjbaaaGreat.Ev

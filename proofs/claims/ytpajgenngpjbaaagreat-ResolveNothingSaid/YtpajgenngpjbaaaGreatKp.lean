import Derived.Test.YtpajgenngpjbaaaGreatKh
import Derived.Test.YtpajgenngpjbaaaGreatGr
/- slices.IndexFunc and ContainsFunc of texts, methods, fields, classes (printed by ki.py); what they tell. -/
namespace Go.Proofs.YtpajgenngpjbaaaGreat.Ev
open Go

def posP {α : Type} (p : α → Bool) : Nat → List α → Option Nat
  | _, [] => none
  | k, x :: r => if p x then some k else posP p (k + 1) r
theorem posP_any {α : Type} (p : α → Bool) : ∀ (l : List α) (k : Nat), (posP p k l).isSome = l.any p
  | [], k => rfl
  | x :: r, k => by
    unfold posP
    cases h : p x with
    | true => simp [h]
    | false => simp [h, posP_any p r (k + 1)]

theorem ixSLoop (l : List Nm) (hl : l.length ≤ 100000) (g : Nat) (cap : List V) (p : Nm → Bool) (M : Mem) (hc : ∀ x ∈ l, ev tab prim g (V.str x :: cap) ([] :: M) = some (.bool (p x), [] :: M)) : ∀ (k i : Nat), i + k = l.length →
    cv tab prim (.loop L100_0) { env := [(0, .list 1 (l.map V.str) false), (1, .func (.func g) [] cap), (7, .int .i64 l.length), (8, .int .i64 (i : Int))], mem := [] :: M } =
      some (match posP p i (l.drop i) with | some q => (.ret, { env := [(4, .int .i64 (q : Int))], mem := [] :: M }) | none => (.exit 0, { env := [], mem := [] :: M })) := by
  intro k
  induction k with
  | zero =>
    intro i hi
    rw [cv_loop', List.drop_eq_nil_of_le (by omega)]
    have h1 : ¬ (i : Int) < (l.length : Int) := by omega
    simp [L100_0, h1, posP]
  | succ k ih =>
    intro i hi
    have hlt : i < l.length := by omega
    have h1 : (i : Int) < (l.length : Int) := by omega
    have hw : IntKind.i64.wrap ((i : Int) + 1) = ((i + 1 : Nat) : Int) := by rw [wrap_small] <;> omega
    have hx := hc l[i] (List.getElem_mem hlt)
    have := ih (i + 1) (by omega)
    have hix : idxOk i l.length = true := by simp [idxOk]; omega
    rw [cv_loop', List.drop_eq_getElem_cons hlt, posP]
    generalize hgx : l[i] = x at *
    have hg : (l.map V.str)[i]? = some (V.str x) := by simp [hlt, hgx]
    cases h : p x
    · rw [h] at hx
      rw [if_neg (by decide), ← this]
      simp [L100_0, h1, hix, hlt, hgx, hw, hx]
    · rw [h] at hx
      rw [if_pos rfl]
      simp [L100_0, h1, hix, hlt, hgx, hx]
theorem ev_ixS (l : List Nm) (hl : l.length ≤ 100000) (g : Nat) (cap : List V) (p : Nm → Bool) (M : Mem) (hc : ∀ x ∈ l, ev tab prim g (V.str x :: cap) ([] :: M) = some (.bool (p x), [] :: M)) (o : Bool) :
    ev tab prim 100 [.list 1 (l.map V.str) o, .func (.func g) [] cap] M = some (.int .i64 (posI (posP p 0 l)), M) := by
  have h := ixSLoop l hl g cap p M hc l.length 0 (by omega)
  rw [List.drop_zero] at h
  rw [ev_fn' tab prim (f := 100) rfl _ _ rfl]
  simp only [Int.natCast_zero] at h
  cases hp : posP p 0 l <;> rw [hp] at h <;> simp at h <;> simp [h, posI]
theorem ev_ixSC (l : List Nm) (hl : l.length ≤ 100000) (g : Nat) (cap : List V) (p : Nm → Bool) (M : Mem) (hc : ∀ x ∈ l, ev tab prim g (V.str x :: cap) ([] :: [] :: M) = some (.bool (p x), [] :: [] :: M)) (o : Bool) :
    ev tab prim 75 [.list 1 (l.map V.str) o, .func (.func g) [] cap] M = some (.bool (l.any p), M) := by
  have h := ev_ixS l hl g cap p ([] :: M) hc false
  have hs := posP_any p l 0
  rw [ev_fn' tab prim (f := 75) rfl _ _ rfl]
  rw [← hs]
  cases hp : posP p 0 l <;> rw [hp] at h <;> simp [h, posI]

theorem ixMLoop (l : List Mth) (hl : l.length ≤ 100000) (g : Nat) (cap : List V) (p : Mth → Bool) (M : Mem) (hc : ∀ x ∈ l, ev tab prim g (Mth.v x :: cap) ([] :: M) = some (.bool (p x), [] :: M)) : ∀ (k i : Nat), i + k = l.length →
    cv tab prim (.loop L103_0) { env := [(0, .list 8 (l.map Mth.v) false), (1, .func (.func g) [] cap), (7, .int .i64 l.length), (8, .int .i64 (i : Int))], mem := [] :: M } =
      some (match posP p i (l.drop i) with | some q => (.ret, { env := [(4, .int .i64 (q : Int))], mem := [] :: M }) | none => (.exit 0, { env := [], mem := [] :: M })) := by
  intro k
  induction k with
  | zero =>
    intro i hi
    rw [cv_loop', List.drop_eq_nil_of_le (by omega)]
    have h1 : ¬ (i : Int) < (l.length : Int) := by omega
    simp [L103_0, h1, posP]
  | succ k ih =>
    intro i hi
    have hlt : i < l.length := by omega
    have h1 : (i : Int) < (l.length : Int) := by omega
    have hw : IntKind.i64.wrap ((i : Int) + 1) = ((i + 1 : Nat) : Int) := by rw [wrap_small] <;> omega
    have hx := hc l[i] (List.getElem_mem hlt)
    have := ih (i + 1) (by omega)
    have hix : idxOk i l.length = true := by simp [idxOk]; omega
    rw [cv_loop', List.drop_eq_getElem_cons hlt, posP]
    generalize hgx : l[i] = x at *
    have hg : (l.map Mth.v)[i]? = some (Mth.v x) := by simp [hlt, hgx]
    unfold Mth.v Mth.cells at hx hg
    cases h : p x
    · rw [h] at hx
      rw [if_neg (by decide), ← this]
      simp [L103_0, h1, hix, hlt, hgx, hw, hx, Mth.v, Mth.cells]
    · rw [h] at hx
      rw [if_pos rfl]
      simp [L103_0, h1, hix, hlt, hgx, hx, Mth.v, Mth.cells]
theorem ev_ixM (l : List Mth) (hl : l.length ≤ 100000) (g : Nat) (cap : List V) (p : Mth → Bool) (M : Mem) (hc : ∀ x ∈ l, ev tab prim g (Mth.v x :: cap) ([] :: M) = some (.bool (p x), [] :: M)) (o : Bool) :
    ev tab prim 103 [.list 8 (l.map Mth.v) o, .func (.func g) [] cap] M = some (.int .i64 (posI (posP p 0 l)), M) := by
  have h := ixMLoop l hl g cap p M hc l.length 0 (by omega)
  rw [List.drop_zero] at h
  rw [ev_fn' tab prim (f := 103) rfl _ _ rfl]
  simp only [Int.natCast_zero] at h
  cases hp : posP p 0 l <;> rw [hp] at h <;> simp at h <;> simp [h, posI]
theorem ev_ixMC (l : List Mth) (hl : l.length ≤ 100000) (g : Nat) (cap : List V) (p : Mth → Bool) (M : Mem) (hc : ∀ x ∈ l, ev tab prim g (Mth.v x :: cap) ([] :: [] :: M) = some (.bool (p x), [] :: [] :: M)) (o : Bool) :
    ev tab prim 92 [.list 8 (l.map Mth.v) o, .func (.func g) [] cap] M = some (.bool (l.any p), M) := by
  have h := ev_ixM l hl g cap p ([] :: M) hc false
  have hs := posP_any p l 0
  rw [ev_fn' tab prim (f := 92) rfl _ _ rfl]
  rw [← hs]
  cases hp : posP p 0 l <;> rw [hp] at h <;> simp [h, posI]

theorem ixFLoop (l : List Fld) (hl : l.length ≤ 100000) (g : Nat) (cap : List V) (p : Fld → Bool) (M : Mem) (hc : ∀ x ∈ l, ev tab prim g (Fld.v x :: cap) ([] :: M) = some (.bool (p x), [] :: M)) : ∀ (k i : Nat), i + k = l.length →
    cv tab prim (.loop L135_0) { env := [(0, .list 3 (l.map Fld.v) false), (1, .func (.func g) [] cap), (7, .int .i64 l.length), (8, .int .i64 (i : Int))], mem := [] :: M } =
      some (match posP p i (l.drop i) with | some q => (.ret, { env := [(4, .int .i64 (q : Int))], mem := [] :: M }) | none => (.exit 0, { env := [], mem := [] :: M })) := by
  intro k
  induction k with
  | zero =>
    intro i hi
    rw [cv_loop', List.drop_eq_nil_of_le (by omega)]
    have h1 : ¬ (i : Int) < (l.length : Int) := by omega
    simp [L135_0, h1, posP]
  | succ k ih =>
    intro i hi
    have hlt : i < l.length := by omega
    have h1 : (i : Int) < (l.length : Int) := by omega
    have hw : IntKind.i64.wrap ((i : Int) + 1) = ((i + 1 : Nat) : Int) := by rw [wrap_small] <;> omega
    have hx := hc l[i] (List.getElem_mem hlt)
    have := ih (i + 1) (by omega)
    have hix : idxOk i l.length = true := by simp [idxOk]; omega
    rw [cv_loop', List.drop_eq_getElem_cons hlt, posP]
    generalize hgx : l[i] = x at *
    have hg : (l.map Fld.v)[i]? = some (Fld.v x) := by simp [hlt, hgx]
    unfold Fld.v at hx hg
    cases h : p x
    · rw [h] at hx
      rw [if_neg (by decide), ← this]
      simp [L135_0, h1, hix, hlt, hgx, hw, hx, Fld.v]
    · rw [h] at hx
      rw [if_pos rfl]
      simp [L135_0, h1, hix, hlt, hgx, hx, Fld.v]
theorem ev_ixF (l : List Fld) (hl : l.length ≤ 100000) (g : Nat) (cap : List V) (p : Fld → Bool) (M : Mem) (hc : ∀ x ∈ l, ev tab prim g (Fld.v x :: cap) ([] :: M) = some (.bool (p x), [] :: M)) (o : Bool) :
    ev tab prim 135 [.list 3 (l.map Fld.v) o, .func (.func g) [] cap] M = some (.int .i64 (posI (posP p 0 l)), M) := by
  have h := ixFLoop l hl g cap p M hc l.length 0 (by omega)
  rw [List.drop_zero] at h
  rw [ev_fn' tab prim (f := 135) rfl _ _ rfl]
  simp only [Int.natCast_zero] at h
  cases hp : posP p 0 l <;> rw [hp] at h <;> simp at h <;> simp [h, posI]
theorem ev_ixFC (l : List Fld) (hl : l.length ≤ 100000) (g : Nat) (cap : List V) (p : Fld → Bool) (M : Mem) (hc : ∀ x ∈ l, ev tab prim g (Fld.v x :: cap) ([] :: [] :: M) = some (.bool (p x), [] :: [] :: M)) (o : Bool) :
    ev tab prim 90 [.list 3 (l.map Fld.v) o, .func (.func g) [] cap] M = some (.bool (l.any p), M) := by
  have h := ev_ixF l hl g cap p ([] :: M) hc false
  have hs := posP_any p l 0
  rw [ev_fn' tab prim (f := 90) rfl _ _ rfl]
  rw [← hs]
  cases hp : posP p 0 l <;> rw [hp] at h <;> simp [h, posI]

theorem ixCLoop (l : List Cls) (hl : l.length ≤ 100000) (g : Nat) (cap : List V) (p : Cls → Bool) (M : Mem) (hc : ∀ x ∈ l, ev tab prim g (Cls.v x :: cap) ([] :: M) = some (.bool (p x), [] :: M)) : ∀ (k i : Nat), i + k = l.length →
    cv tab prim (.loop L123_0) { env := [(0, .list 7 (l.map Cls.v) false), (1, .func (.func g) [] cap), (7, .int .i64 l.length), (8, .int .i64 (i : Int))], mem := [] :: M } =
      some (match posP p i (l.drop i) with | some q => (.ret, { env := [(4, .int .i64 (q : Int))], mem := [] :: M }) | none => (.exit 0, { env := [], mem := [] :: M })) := by
  intro k
  induction k with
  | zero =>
    intro i hi
    rw [cv_loop', List.drop_eq_nil_of_le (by omega)]
    have h1 : ¬ (i : Int) < (l.length : Int) := by omega
    simp [L123_0, h1, posP]
  | succ k ih =>
    intro i hi
    have hlt : i < l.length := by omega
    have h1 : (i : Int) < (l.length : Int) := by omega
    have hw : IntKind.i64.wrap ((i : Int) + 1) = ((i + 1 : Nat) : Int) := by rw [wrap_small] <;> omega
    have hx := hc l[i] (List.getElem_mem hlt)
    have := ih (i + 1) (by omega)
    have hix : idxOk i l.length = true := by simp [idxOk]; omega
    rw [cv_loop', List.drop_eq_getElem_cons hlt, posP]
    generalize hgx : l[i] = x at *
    have hg : (l.map Cls.v)[i]? = some (Cls.v x) := by simp [hlt, hgx]
    unfold Cls.v Cls.cells at hx hg
    cases h : p x
    · rw [h] at hx
      rw [if_neg (by decide), ← this]
      simp [L123_0, h1, hix, hlt, hgx, hw, hx, Cls.v, Cls.cells]
    · rw [h] at hx
      rw [if_pos rfl]
      simp [L123_0, h1, hix, hlt, hgx, hx, Cls.v, Cls.cells]
theorem ev_ixC (l : List Cls) (hl : l.length ≤ 100000) (g : Nat) (cap : List V) (p : Cls → Bool) (M : Mem) (hc : ∀ x ∈ l, ev tab prim g (Cls.v x :: cap) ([] :: M) = some (.bool (p x), [] :: M)) (o : Bool) :
    ev tab prim 123 [.list 7 (l.map Cls.v) o, .func (.func g) [] cap] M = some (.int .i64 (posI (posP p 0 l)), M) := by
  have h := ixCLoop l hl g cap p M hc l.length 0 (by omega)
  rw [List.drop_zero] at h
  rw [ev_fn' tab prim (f := 123) rfl _ _ rfl]
  simp only [Int.natCast_zero] at h
  cases hp : posP p 0 l <;> rw [hp] at h <;> simp at h <;> simp [h, posI]
theorem ev_ixCC (l : List Cls) (hl : l.length ≤ 100000) (g : Nat) (cap : List V) (p : Cls → Bool) (M : Mem) (hc : ∀ x ∈ l, ev tab prim g (Cls.v x :: cap) ([] :: [] :: M) = some (.bool (p x), [] :: [] :: M)) (o : Bool) :
    ev tab prim 81 [.list 7 (l.map Cls.v) o, .func (.func g) [] cap] M = some (.bool (l.any p), M) := by
  have h := ev_ixC l hl g cap p ([] :: M) hc false
  have hs := posP_any p l 0
  rw [ev_fn' tab prim (f := 81) rfl _ _ rfl]
  rw [← hs]
  cases hp : posP p 0 l <;> rw [hp] at h <;> simp [h, posI]
end Go.Proofs.YtpajgenngpjbaaaGreat.Ev

/- What a program tells: Names, Class, Concrete, Has. -/
namespace Go.Proofs.YtpajgenngpjbaaaGreat.Ev
open Go

def nmSt (S : List Cls) (t : Nat) (M : Mem) (i : Nat) : St := { env := [(2, .list 1 (((S.take i).map (·.n)).map V.str) true), (10, .slc 0 t 0 7 S.length), (11, .int .i64 S.length), (12, .int .i64 i)], mem := [] :: M }
theorem ev_Names {M : Mem} {k t q : Nat} {S : List Cls} (h : Held M k t q S) : ev tab prim 11 [.ptr 0 k 0] M = some (.list 1 ((S.map (·.n)).map V.str) true, M) := by
  have hl := h.len
  have n0 : ¬ 0 = M.length := by omega
  have hp := h.p
  have hr := h.row
  have hf := h.few
  have hL := loop_all (b := L11_0) (nmSt S t M) S.length (.exit 0, { env := [(2, .list 1 ((S.map (·.n)).map V.str) true)], mem := [] :: M })
    (fun i hi => by
      have hc := flatC_at S i hi
      have hix : idxOk i S.length = true := by simp [idxOk]; omega
      have w1 : IntKind.i64.wrap ((i : Int) + 1) = ((i + 1 : Nat) : Int) := by rw [wrap_small] <;> omega
      have g1 : (i : Int) < (S.length : Int) := by omega
      have ht : ((S.take (i + 1)).map (·.n)).map V.str = ((S.take i).map (·.n)).map V.str ++ [.str S[i].n] := by
        rw [List.take_succ_eq_append_getElem hi, List.map_append, List.map_append]; rfl
      have hm : min i S.length = i := by omega
      have b1 : i + 1 ≤ 140737488355328 := by omega
      have b2 : (i + 1) * 16 ≤ 140737488355328 := by omega
      unfold nmSt
      rw [ht]
      generalize flat (S.map Cls.v) = X at *
      generalize S[i] = c at *
      unfold Cls.cells at hc
      simp [L11_0, g1, hix, n0, hr, hc, w1, hm, b1, b2])
    (by
      unfold nmSt
      rw [List.take_length]
      simp [L11_0]) (by simp)
  unfold nmSt at hL
  simp only [Int.cast_ofNat_Int, List.take_zero, List.map_nil] at hL
  rw [ev_fn' tab prim (f := 11) rfl _ _ rfl]
  simp at hL
  simp [hp, n0, hL]

theorem ev_Concrete {M : Mem} {k t q : Nat} {S : List Cls} (h : Held M k t q S) (nm : Nm) : ev tab prim 17 [.ptr 0 k 0, .str nm] M = some (.bool ((look S nm).isSome && !((look S nm).getD Cls.zero).a), M) := by
  have hf := ev_find (h.push []) nm
  unfold findV at hf
  generalize (look S nm).getD Cls.zero = c at *
  generalize (look S nm).isSome = b at *
  unfold Cls.v Cls.cells at hf
  rw [ev_fn' tab prim (f := 17) rfl _ _ rfl]
  cases b <;> simp [hf]

theorem zero_own : Cls.zero.OwnOk := ⟨by decide, by decide, by decide, fun m hm => by cases hm⟩
theorem ev_Class {M : Mem} {k t q : Nat} {S : List Cls} (h : Held M k t q S) (hlim : ∀ c ∈ S, c.OwnOk) (nm : Nm) : ev tab prim 14 [.ptr 0 k 0, .str nm] M = some (findV (look S nm), M) := by
  have hf := ev_find (h.push [(4, [.str [], .str [], .bool false, .bool false, .list 1 [] true, .list 3 [] true, .list 8 [] true])]) nm
  have ho : ((look S nm).getD Cls.zero).OwnOk := by
    cases hk : look S nm with
    | none => exact zero_own
    | some c => exact hlim c (look_mem hk).1
  unfold findV at hf ⊢
  generalize (look S nm).getD Cls.zero = c at *
  generalize (look S nm).isSome = b at *
  obtain ⟨Mo, hO⟩ := ev_Own c ho.1 ho.2.1 ho.2.2.1 ho.2.2.2
  unfold Cls.v Cls.cells at hf hO ⊢
  rw [ev_fn' tab prim (f := 14) rfl _ _ rfl]
  simp [hf, hO]

/-! ### Has -/
def isM (nm d : Nm) (m : Mth) : Bool := m.n == nm && (m.d == d && (!m.s && !m.a))
def hasM (nm d : Nm) (c : Cls) : Bool := c.ms.any (isM nm d)
/-- The first of a class's supers that has a method that is neither static nor abstract. -/
def hasP (S : List Cls) (cls nm d : Nm) : Option Nm := (chain S cls).find? fun s => hasM nm d ((look S s).getD Cls.zero)
theorem ev_Has1 (m : Mth) (nm d : Nm) (MM : Mem) (L : Nat) (hL : L < MM.length) (h6 : mget MM L 6 = some [.str nm]) (h7 : mget MM L 7 = some [.str d]) :
    ev tab prim 102 [m.v, .ptr L 6 0, .ptr L 7 0] MM = some (.bool (isM nm d m), MM) := by
  have hne : ¬ L = MM.length := by omega
  unfold Mth.v Mth.cells isM
  rw [ev_fn' tab prim (f := 102) rfl _ _ rfl]
  cases h1 : m.n == nm <;> cases h2 : m.d == d <;> cases h3 : m.s <;> simp [hne, h6, h7, h1, h2, h3]
theorem ev_Has0 {MM : Mem} {k t q : Nat} {S : List Cls} (h : Held MM k t q S) (hms : ∀ c ∈ S, c.ms.length ≤ 100000) (s nm d : Nm) (L : Nat) (hL : L < MM.length) (h4 : mget MM L 4 = some [.ptr 0 k 0]) (h6 : mget MM L 6 = some [.str nm]) (h7 : mget MM L 7 = some [.str d]) :
    ev tab prim 101 [.str s, .ptr L 4 0, .ptr L 6 0, .ptr L 7 0] MM = some (.bool (hasM nm d ((look S s).getD Cls.zero)), MM) := by
  have hne : ¬ L = MM.length := by omega
  have hf := ev_find (h.push []) s
  have hcl : ((look S s).getD Cls.zero).ms.length ≤ 100000 := by
    cases hk : look S s with
    | none => simp [Cls.zero]
    | some c => exact hms c (look_mem hk).1
  unfold findV at hf
  generalize (look S s).getD Cls.zero = c at *
  generalize (look S s).isSome = b at *
  have hne1 : ¬ L = MM.length + 1 := by omega
  have hne2 : ¬ L = MM.length + 1 + 1 := by omega
  have hc := ev_ixMC c.ms hcl 102 [.ptr L 6 0, .ptr L 7 0] (isM nm d) ([] :: MM) (fun m _ => ev_Has1 m nm d _ L (by simp; omega) (by simp [hne, hne1, hne2, h6]) (by simp [hne, hne1, hne2, h7])) false
  unfold hasM
  unfold Cls.v Cls.cells at hf
  rw [ev_fn' tab prim (f := 101) rfl _ _ rfl]
  simp [hne, h4, hf, hc]

theorem posP_find {α : Type} (p : α → Bool) : ∀ (l : List α) (k : Nat), (posP p k l = none ∧ l.find? p = none) ∨ ∃ i, ∃ h : i < l.length, posP p k l = some (k + i) ∧ l.find? p = some l[i]
  | [], k => .inl ⟨rfl, rfl⟩
  | x :: r, k => by
    unfold posP
    cases h : p x with
    | true => exact .inr ⟨0, by simp, by simp, by simp [h]⟩
    | false =>
      rcases posP_find p r (k + 1) with ⟨h1, h2⟩ | ⟨i, hi, h1, h2⟩
      · exact .inl ⟨by simpa using h1, by simp [h, h2]⟩
      · exact .inr ⟨i + 1, by simp; omega, by simp [h1]; omega, by simp [h, h2]⟩
theorem ev_PHas {M : Mem} {k t q : Nat} {S : List Cls} (h : Held M k t q S) (hms : ∀ c ∈ S, c.ms.length ≤ 100000) (cls nm d : Nm) : ev tab prim 57 [.ptr 0 k 0, .str cls, .str nm, .str d] M = some (.tup [.str ((hasP S cls nm d).getD []), .bool (hasP S cls nm d).isSome], M) := by
  have hl := h.len
  have hch := ev_chain (h.push [(4, [.ptr 0 k 0]), (6, [.str nm]), (7, [.str d])]) cls
  have hcl := chain_len S cls
  have hfew := h.few
  have e0 : ¬ 0 = M.length := by omega
  have e1 : 0 ≤ M.length := by omega
  have hne1 : ¬ M.length = M.length + 1 := by omega
  have hne2 : ¬ M.length = M.length + 1 + 1 := by omega
  have hB : Held ([] :: [(4, [.ptr 0 k 0]), (6, [.str nm]), (7, [.str d])] :: M) k t q S := (h.push _).push _
  have hI := ev_ixS (chain S cls) (by omega) 101 [.ptr M.length 4 0, .ptr M.length 6 0, .ptr M.length 7 0] (fun s => hasM nm d ((look S s).getD Cls.zero)) ([(4, [.ptr 0 k 0]), (6, [.str nm]), (7, [.str d])] :: M)
    (fun s _ => ev_Has0 hB hms s nm d M.length (by simp; omega) (by simp [hne1]) (by simp [hne1]) (by simp [hne1])) false
  unfold hasP
  rcases posP_find (fun s => hasM nm d ((look S s).getD Cls.zero)) (chain S cls) 0 with ⟨h1, h2⟩ | ⟨i, hi, h1, h2⟩
  · rw [h1] at hI
    rw [h2]
    unfold posI at hI
    rw [ev_fn' tab prim (f := 57) rfl _ _ rfl]
    simp [hch, hI]
  · rw [h1] at hI
    rw [h2]
    unfold posI at hI
    have hix : idxOk i (chain S cls).length = true := by simp [idxOk]; omega
    rw [Nat.zero_add] at hI
    rw [ev_fn' tab prim (f := 57) rfl _ _ rfl]
    have hng : ¬ (i : Int) < 0 := by omega
    simp [hch, hI, hix, hi, hng]
end Go.Proofs.YtpajgenngpjbaaaGreat.Ev

/- The rules of link (walk): super, implements, straight, apart, face, whole. -/
namespace Go.Proofs.YtpajgenngpjbaaaGreat.Ev
open Go

def superP (S : List Cls) (c : Cls) : Bool := (look S c.s).isSome && (!((look S c.s).getD Cls.zero).i && (((look S c.s).getD Cls.zero).n != sSys && (!c.i || ((look S c.s).getD Cls.zero).n == sObject)))
theorem ev_super {M : Mem} {k t q : Nat} {S : List Cls} (h : Held M k t q S) (c : Cls) : ev tab prim 45 [.ptr 0 k 0, c.v] M = some (.bool (superP S c), M) := by
  have hf := ev_find (h.push []) c.s
  unfold findV at hf
  unfold superP sSys sObject
  generalize (look S c.s).getD Cls.zero = x at *
  generalize (look S c.s).isSome = b at *
  unfold Cls.v Cls.cells at *
  rw [ev_fn' tab prim (f := 45) rfl _ _ rfl]
  cases b with
  | false => simp [hf]
  | true =>
    cases h1 : x.i with
    | true => rw [h1] at hf; simp [hf]
    | false =>
      rw [h1] at hf
      cases h2 : x.n == [83, 121, 115] with
      | true => simp [hf, h2, bne]
      | false =>
        cases h3 : c.i with
        | false => simp [hf, h2, bne]
        | true => cases h4 : x.n == [79, 98, 106, 101, 99, 116] <;> simp [hf, h2, h4, bne]

def implP1 (S : List Cls) (c : Cls) (i : Nat) : Bool := (look S (c.im.getD i [])).isSome && (((look S (c.im.getD i [])).getD Cls.zero).i && !((c.im.take i).contains (c.im.getD i [])))
def implP (S : List Cls) (c : Cls) : Bool := decide (∀ i, i < c.im.length → implP1 S c i = true)
def imSt (k : Nat) (c : Cls) (M : Mem) (i : Nat) : St := { env := [(0, .ptr 0 k 0), (3, .cptr c.cells), (10, .list 1 (c.im.map V.str) false), (11, .int .i64 c.im.length), (12, .int .i64 i)], mem := [] :: M }
theorem ev_implements {M : Mem} {k t q : Nat} {S : List Cls} (h : Held M k t q S) (c : Cls) (hl : c.im.length ≤ 100000) : ev tab prim 46 [.ptr 0 k 0, c.v] M = some (.bool (implP S c), M) := by
  have hL := loop_find (b := L46_0) (imSt k c M) c.im.length (implP1 S c) (.exit 0, { env := [], mem := [] :: M }) (.ret, { env := [(4, .bool false)], mem := [] :: M })
    (fun i hi hp => by
      have hg : c.im.getD i [] = c.im[i] := by rw [List.getD_eq_getElem?_getD, List.getElem?_eq_getElem hi]; rfl
      unfold implP1 at hp
      rw [hg] at hp
      have hf := ev_find (h.push []) c.im[i]
      have hct := ev_SContains (c.im.take i) c.im[i] (by rw [List.length_take]; unfold maxLen; omega) false
      have hix : idxOk i c.im.length = true := by simp [idxOk]; omega
      have w1 : IntKind.i64.wrap ((i : Int) + 1) = ((i + 1 : Nat) : Int) := by rw [wrap_small] <;> omega
      have g1 : (i : Int) < (c.im.length : Int) := by omega
      have g2 : (i : Int) ≤ (c.im.length : Int) := by omega
      unfold findV at hf
      simp only [Bool.and_eq_true, Bool.not_eq_true'] at hp
      obtain ⟨p1, p2, p3⟩ := hp
      rw [p1] at hf
      rw [p3] at hct
      generalize (look S c.im[i]).getD Cls.zero = x at *
      generalize hgx : c.im[i] = nm at *
      unfold imSt Cls.cells
      unfold Cls.v Cls.cells at hf
      rw [p2] at hf
      rw [List.map_take] at hct
      simp [L46_0, g1, g2, hix, hi, hgx, w1, hf, hct])
    (fun i hi hp => by
      have hg : c.im.getD i [] = c.im[i] := by rw [List.getD_eq_getElem?_getD, List.getElem?_eq_getElem hi]; rfl
      unfold implP1 at hp
      rw [hg] at hp
      have hf := ev_find (h.push []) c.im[i]
      have hct := ev_SContains (c.im.take i) c.im[i] (by rw [List.length_take]; unfold maxLen; omega) false
      have hix : idxOk i c.im.length = true := by simp [idxOk]; omega
      have g1 : (i : Int) < (c.im.length : Int) := by omega
      have g2 : (i : Int) ≤ (c.im.length : Int) := by omega
      unfold findV at hf
      generalize (look S c.im[i]).getD Cls.zero = x at *
      generalize (look S c.im[i]).isSome = b at *
      generalize hgx : c.im[i] = nm at *
      unfold imSt Cls.cells
      unfold Cls.v Cls.cells at hf
      rw [List.map_take] at hct
      cases b with
      | false => simp [L46_0, g1, hix, hi, hgx, hf]
      | true =>
        cases h1 : x.i with
        | false => rw [h1] at hf; simp [L46_0, g1, hix, hi, hgx, hf]
        | true =>
          rw [h1] at hf hp
          have h2 : (c.im.take i).contains nm = true := by simpa using hp
          rw [h2] at hct
          simp [L46_0, g1, g2, hix, hi, hgx, hf, hct])
    (by unfold imSt; simp [L46_0]) (by simp) (by simp)
  unfold imSt at hL
  unfold implP
  simp only [Int.cast_ofNat_Int] at hL
  rw [ev_fn' tab prim (f := 46) rfl _ _ rfl]
  unfold Cls.v
  unfold Cls.cells at *
  by_cases hall : ∀ i, i < c.im.length → implP1 S c i = true
  · rw [if_pos hall] at hL
    rw [decide_eq_true hall]
    simp [hL]
  · rw [if_neg hall] at hL
    rw [decide_eq_false hall]
    simp [hL]
end Go.Proofs.YtpajgenngpjbaaaGreat.Ev

/- The rules of link (walk): straight, face, whole, apart. -/
namespace Go.Proofs.YtpajgenngpjbaaaGreat.Ev
open Go

def straightP (S : List Cls) (c : Cls) : Bool := !((chain S c.s).contains c.n) && (!c.i || !((spreadG S (fuelS S) c.n []).contains c.n))
theorem ev_straight {k t q : Nat} {S : List Cls} {F : Mem} {O A : Boxes} (hO : Num O) (h : Held (mm F O A) k t q S) (hlim : Lim S) (c : Cls) : ∃ x, ev tab prim 47 [.ptr 0 k 0, c.v] (mm F O A) = some (.bool (straightP S c), mm F (O ++ [(O.length, [x])]) A) := by
  have hn := mnew_O O A hO [mapO []] F
  have hs := ev_spread (k := k) hO (fun F ks => h.spM F ks) hlim.im (fuelS S) c.n [] ([] :: F) (left_fuel S [])
  have hch := ev_chain (h.spM ([] :: F) (spreadG S (fuelS S) c.n [])) c.s
  have hct := ev_SContains (chain S c.s) c.n (by have := chain_len S c.s; have := h.few; unfold maxLen; omega) false
  have hm0 : mapO [] = .mapv none [] [] := rfl
  unfold spM at hs hch
  unfold straightP
  generalize hks : spreadG S (fuelS S) c.n [] = ks at *
  have hgk : bget (O ++ [(O.length, [mapO ks])]) O.length = some [mapO ks] := hO.get _
  have hfk := findK_map ks c.n
  have c0 : ∀ O A, mm ([] :: F) O A = ([] : Boxes) :: mm F O A := fun _ _ => rfl
  rw [c0] at hch
  simp only [c0] at hs
  simp only [hm0] at hn hs
  refine ⟨mapO ks, ?_⟩
  unfold mapO at hgk hs hch
  unfold Cls.v Cls.cells mapO
  rw [ev_fn' tab prim (f := 47) rfl _ _ rfl]
  cases h1 : (chain S c.s).contains c.n with
  | true => rw [h1] at hct; simp [hn, hs, hch, hct]
  | false =>
    rw [h1] at hct
    cases h2 : c.i with
    | false => simp [hn, hs, hch, hct]
    | true =>
      cases h3 : ks.contains c.n with
      | true => rw [h3, if_pos rfl] at hfk; simp [hn, hs, hch, hct, hgk, isKey, hfk, mapAns]
      | false => rw [h3, if_neg (by decide)] at hfk; simp [hn, hs, hch, hct, hgk, isKey, hfk, mapAns]

def sClinit : Nm := [60, 99, 108, 105, 110, 105, 116, 62]
def faceP (c : Cls) : Bool := !c.i || (c.a && (!(c.ms.any fun m => !m.a && m.n != sClinit) && !(c.fs.any fun f => !f.s)))
def wholeP (c : Cls) : Bool := c.a || !(c.ms.any fun m => m.a)
theorem ev_face1 (m : Mth) (M : Mem) : ev tab prim 94 [m.v] M = some (.bool (!m.a && m.n != sClinit), M) := by
  unfold Mth.v Mth.cells sClinit
  rw [ev_fn' tab prim (f := 94) rfl _ _ rfl]
  cases h1 : m.a <;> simp [h1, bne]
theorem ev_face2 (f : Fld) (M : Mem) : ev tab prim 95 [f.v] M = some (.bool (!f.s), M) := by
  unfold Fld.v
  rw [ev_fn' tab prim (f := 95) rfl _ _ rfl]
  simp
theorem ev_whole1 (m : Mth) (M : Mem) : ev tab prim 96 [m.v] M = some (.bool m.a, M) := by
  unfold Mth.v Mth.cells
  rw [ev_fn' tab prim (f := 96) rfl _ _ rfl]
  simp
theorem ev_face (c : Cls) (p : V) (hp : p.strip = p) (h1 : c.ms.length ≤ 100000) (h2 : c.fs.length ≤ 100000) (M : Mem) : ev tab prim 49 [p, c.v] M = some (.bool (faceP c), M) := by
  have hm := ev_ixMC c.ms h1 94 [] (fun m => !m.a && m.n != sClinit) ([] :: M) (fun m _ => ev_face1 m _) false
  have hf := ev_ixFC c.fs h2 95 [] (fun f => !f.s) ([] :: M) (fun f _ => ev_face2 f _) false
  unfold faceP
  generalize (c.ms.any fun m => !m.a && m.n != sClinit) = b1 at *
  generalize (c.fs.any fun f => !f.s) = b2 at *
  unfold Cls.v Cls.cells
  rw [ev_fn' tab prim (f := 49) rfl _ _ rfl]
  cases h3 : c.i with
  | false => simp
  | true => cases h4 : c.a <;> cases b1 <;> simp [hm, hf]
theorem ev_whole (c : Cls) (p : V) (hp : p.strip = p) (h1 : c.ms.length ≤ 100000) (M : Mem) : ev tab prim 50 [p, c.v] M = some (.bool (wholeP c), M) := by
  have hm := ev_ixMC c.ms h1 96 [] (fun m => m.a) ([] :: M) (fun m _ => ev_whole1 m _) false
  unfold wholeP
  generalize (c.ms.any fun m => m.a) = b1 at *
  unfold Cls.v Cls.cells
  rw [ev_fn' tab prim (f := 50) rfl _ _ rfl]
  cases h4 : c.a <;> simp [hm]

def apF1 (c : Cls) (i : Nat) : Bool := !((c.fs.take i).any fun g => g.n == (c.fs.getD i ⟨[], [], false⟩).n)
def mth0 : Mth := ⟨[], [], false, false, 0, 0, [], []⟩
def apM1 (c : Cls) (i : Nat) : Bool := !((c.ms.take i).any fun g => g.n == (c.ms.getD i mth0).n && g.d == (c.ms.getD i mth0).d)
def apartP (c : Cls) : Bool := decide (∀ i, i < c.fs.length → apF1 c i = true) && decide (∀ i, i < c.ms.length → apM1 c i = true)
theorem ev_apart1 (f g : Fld) (M : Mem) : ev tab prim 91 [f.v, .cptr [.str g.n, .str g.d, .bool g.s]] M = some (.bool (f.n == g.n), M) := by
  unfold Fld.v
  rw [ev_fn' tab prim (f := 91) rfl _ _ rfl]
  simp
theorem ev_apart2 (f g : Mth) (M : Mem) : ev tab prim 93 [f.v, .cptr g.cells] M = some (.bool (f.n == g.n && f.d == g.d), M) := by
  unfold Mth.v Mth.cells
  rw [ev_fn' tab prim (f := 93) rfl _ _ rfl]
  cases h1 : f.n == g.n <;> simp [h1]
def afSt (c : Cls) (M : Mem) (i : Nat) : St := { env := [(3, .cptr c.cells), (10, .list 3 (c.fs.map Fld.v) false), (11, .int .i64 c.fs.length), (12, .int .i64 i)], mem := [] :: M }
def amSt (c : Cls) (M : Mem) (i : Nat) : St := { env := [(3, .cptr c.cells), (25, .list 8 (c.ms.map Mth.v) false), (26, .int .i64 c.ms.length), (27, .int .i64 i)], mem := [] :: M }
theorem af_loop (c : Cls) (h2 : c.fs.length ≤ 100000) (M : Mem) : cv tab prim (.loop L48_0) (afSt c M 0) =
    some (if ∀ i, i < c.fs.length → apF1 c i = true then (.exit 0, { env := [(3, .cptr c.cells)], mem := [] :: M }) else (.ret, { env := [(4, .bool false)], mem := [] :: M })) := by
  have key : ∀ i, i < c.fs.length → cv tab prim L48_0 (afSt c M i) = some (if apF1 c i = true then (.normal, afSt c M (i + 1)) else (.ret, { env := [(4, .bool false)], mem := [] :: M })) := by
    intro i hi
    have hg : c.fs.getD i ⟨[], [], false⟩ = c.fs[i] := by rw [List.getD_eq_getElem?_getD, List.getElem?_eq_getElem hi]; rfl
    have hix : idxOk i c.fs.length = true := by simp [idxOk]; omega
    have w1 : IntKind.i64.wrap ((i : Int) + 1) = ((i + 1 : Nat) : Int) := by rw [wrap_small] <;> omega
    have g1 : (i : Int) < (c.fs.length : Int) := by omega
    have g2 : (i : Int) ≤ (c.fs.length : Int) := by omega
    unfold apF1
    rw [hg]
    generalize hgx : c.fs[i] = f at *
    have hc := ev_ixFC (c.fs.take i) (by rw [List.length_take]; omega) 91 [.cptr [.str f.n, .str f.d, .bool f.s]] (fun g => g.n == f.n) ([] :: M) (fun g _ => ev_apart1 g f _) false
    rw [List.map_take] at hc
    generalize (c.fs.take i).any (fun g => g.n == f.n) = b at *
    have hgy : (c.fs.map Fld.v)[i]? = some (.agg [.str f.n, .str f.d, .bool f.s]) := by simp [hi, hgx, Fld.v]
    unfold afSt Cls.cells
    cases b <;> simp [L48_0, g1, g2, hix, hi, hgx, w1, hc, Fld.v]
  refine loop_find (afSt c M) c.fs.length (apF1 c) _ _ (fun i hi hp => ?_) (fun i hi hp => ?_) ?_ (by simp) (by simp)
  · rw [key i hi, if_pos hp]
  · rw [key i hi, if_neg (by rw [hp]; decide)]
  · unfold afSt; simp [L48_0]
theorem am_loop (c : Cls) (h2 : c.ms.length ≤ 100000) (M : Mem) : cv tab prim (.loop L48_1) (amSt c M 0) =
    some (if ∀ i, i < c.ms.length → apM1 c i = true then (.exit 2, { env := [], mem := [] :: M }) else (.ret, { env := [(4, .bool false)], mem := [] :: M })) := by
  have key : ∀ i, i < c.ms.length → cv tab prim L48_1 (amSt c M i) = some (if apM1 c i = true then (.normal, amSt c M (i + 1)) else (.ret, { env := [(4, .bool false)], mem := [] :: M })) := by
    intro i hi
    have hg : c.ms.getD i mth0 = c.ms[i] := by rw [List.getD_eq_getElem?_getD, List.getElem?_eq_getElem hi]; rfl
    have hix : idxOk i c.ms.length = true := by simp [idxOk]; omega
    have w1 : IntKind.i64.wrap ((i : Int) + 1) = ((i + 1 : Nat) : Int) := by rw [wrap_small] <;> omega
    have g1 : (i : Int) < (c.ms.length : Int) := by omega
    have g2 : (i : Int) ≤ (c.ms.length : Int) := by omega
    unfold apM1
    rw [hg]
    generalize hgx : c.ms[i] = f at *
    have hc := ev_ixMC (c.ms.take i) (by rw [List.length_take]; omega) 93 [.cptr f.cells] (fun g => g.n == f.n && g.d == f.d) ([] :: M) (fun g _ => ev_apart2 g f _) false
    rw [List.map_take] at hc
    generalize (c.ms.take i).any (fun g => g.n == f.n && g.d == f.d) = b at *
    unfold Mth.cells at hc
    unfold amSt Cls.cells
    cases b <;> simp [L48_1, g1, g2, hix, hi, hgx, w1, hc, Mth.v, Mth.cells]
  refine loop_find (amSt c M) c.ms.length (apM1 c) _ _ (fun i hi hp => ?_) (fun i hi hp => ?_) ?_ (by simp) (by simp)
  · rw [key i hi, if_pos hp]
  · rw [key i hi, if_neg (by rw [hp]; decide)]
  · unfold amSt; simp [L48_1]
theorem ev_apart (c : Cls) (p : V) (hp : p.strip = p) (h1 : c.ms.length ≤ 100000) (h2 : c.fs.length ≤ 100000) (M : Mem) : ev tab prim 48 [p, c.v] M = some (.bool (apartP c), M) := by
  have hf := af_loop c h2 M
  have hm := am_loop c h1 M
  unfold apartP
  unfold afSt at hf
  unfold amSt at hm
  unfold Cls.v
  unfold Cls.cells at *
  simp only [Int.cast_ofNat_Int] at hf hm
  rw [ev_fn' tab prim (f := 48) rfl _ _ rfl]
  by_cases a1 : ∀ i, i < c.fs.length → apF1 c i = true
  · rw [if_pos a1] at hf
    rw [decide_eq_true a1]
    by_cases a2 : ∀ i, i < c.ms.length → apM1 c i = true
    · rw [if_pos a2] at hm
      rw [decide_eq_true a2]
      simp [hf, hm]
    · rw [if_neg a2] at hm
      rw [decide_eq_false a2]
      simp [hf, hm]
  · rw [if_neg a1] at hf
    rw [decide_eq_false a1]
    simp [hf]
end Go.Proofs.YtpajgenngpjbaaaGreat.Ev

/- The rules of link (walk): done. -/
namespace Go.Proofs.YtpajgenngpjbaaaGreat.Ev
open Go

def doneM (S : List Cls) (cn : Nm) (m : Mth) : Bool := !(m.a && !((hasP S cn m.n m.d).isSome))
def done1 (S : List Cls) (cn s : Nm) : Bool := ((look S s).getD Cls.zero).ms.all (doneM S cn)
def doneP (S : List Cls) (c : Cls) : Bool := c.a || (chain S c.n ++ sortT (ifcs S c.n)).all (done1 S c.n)
theorem all_range {α : Type} (p : α → Bool) (d : α) (l : List α) : l.all p = decide (∀ i, i < l.length → p (l.getD i d) = true) := by
  rw [Bool.eq_iff_iff, List.all_eq_true, decide_eq_true_eq]
  constructor
  · intro h i hi
    rw [List.getD_eq_getElem?_getD, List.getElem?_eq_getElem hi]
    exact h _ (List.getElem_mem hi)
  · intro h x hx
    obtain ⟨i, hi, rfl⟩ := List.getElem_of_mem hx
    have := h i hi
    rwa [List.getD_eq_getElem?_getD, List.getElem?_eq_getElem hi] at this

section
variable {k t q : Nat} {S : List Cls}
def dmSt (k : Nat) (c : Cls) (M : Mem) (l : List Nm) (i : Nat) (ms : List Mth) (j : Nat) : St :=
  { env := [(0, .ptr 0 k 0), (3, .cptr c.cells), (23, .list 1 (l.map V.str) true), (24, .int .i64 l.length), (25, .int .i64 i), (36, .list 8 (ms.map Mth.v) false), (37, .int .i64 ms.length), (38, .int .i64 j)], mem := [] :: M }
def doSt (k : Nat) (c : Cls) (M : Mem) (l : List Nm) (i : Nat) : St :=
  { env := [(0, .ptr 0 k 0), (3, .cptr c.cells), (23, .list 1 (l.map V.str) true), (24, .int .i64 l.length), (25, .int .i64 i)], mem := [] :: M }
theorem dm_loop {M : Mem} (h : Held M k t q S) (hms : ∀ c ∈ S, c.ms.length ≤ 100000) (c : Cls) (l : List Nm) (i : Nat) (ms : List Mth) (hl : ms.length ≤ 100000) : cv tab prim (.loop L51_0) (dmSt k c M l i ms 0) =
    some (if ms.all (doneM S c.n) = true then (.exit 2, doSt k c M l i) else (.ret, { env := [(4, .bool false)], mem := [] :: M })) := by
  have key : ∀ j, j < ms.length → cv tab prim L51_0 (dmSt k c M l i ms j) = some (if doneM S c.n (ms.getD j mth0) = true then (.normal, dmSt k c M l i ms (j + 1)) else (.ret, { env := [(4, .bool false)], mem := [] :: M })) := by
    intro j hj
    have hg : ms.getD j mth0 = ms[j] := by rw [List.getD_eq_getElem?_getD, List.getElem?_eq_getElem hj]; rfl
    have hix : idxOk j ms.length = true := by simp [idxOk]; omega
    have w1 : IntKind.i64.wrap ((j : Int) + 1) = ((j + 1 : Nat) : Int) := by rw [wrap_small] <;> omega
    have g1 : (j : Int) < (ms.length : Int) := by omega
    rw [hg]
    generalize hgx : ms[j] = m at *
    have hH := ev_PHas (h.push []) hms c.n m.n m.d
    unfold doneM
    generalize (hasP S c.n m.n m.d).getD [] = ow at *
    generalize (hasP S c.n m.n m.d).isSome = b at *
    unfold dmSt Cls.cells
    cases ha : m.a <;> cases b <;> simp [L51_0, g1, hix, hj, hgx, w1, hH, Mth.v, Mth.cells, ha]
  rw [all_range _ mth0]
  have := loop_find (dmSt k c M l i ms) ms.length (fun j => doneM S c.n (ms.getD j mth0)) (.exit 2, doSt k c M l i) (.ret, { env := [(4, .bool false)], mem := [] :: M }) (fun j hj hp => by rw [key j hj, if_pos hp]) (fun j hj hp => by rw [key j hj, if_neg (by rw [hp]; decide)]) (by unfold dmSt doSt Cls.cells; simp [L51_0]) (by simp) (by simp)
  rw [this]
  simp only [decide_eq_true_eq]
theorem do_loop {M : Mem} (h : Held M k t q S) (hms : ∀ c ∈ S, c.ms.length ≤ 100000) (c : Cls) (l : List Nm) (hl : l.length ≤ 1000000) : cv tab prim (.loop L51_1) (doSt k c M l 0) =
    some (if l.all (done1 S c.n) = true then (.exit 0, { env := [], mem := [] :: M }) else (.ret, { env := [(4, .bool false)], mem := [] :: M })) := by
  have key : ∀ i, i < l.length → cv tab prim L51_1 (doSt k c M l i) = some (if done1 S c.n (l.getD i []) = true then (.normal, doSt k c M l (i + 1)) else (.ret, { env := [(4, .bool false)], mem := [] :: M })) := by
    intro i hi
    have hg : l.getD i [] = l[i] := by rw [List.getD_eq_getElem?_getD, List.getElem?_eq_getElem hi]; rfl
    have hix : idxOk i l.length = true := by simp [idxOk]; omega
    have w1 : IntKind.i64.wrap ((i : Int) + 1) = ((i + 1 : Nat) : Int) := by rw [wrap_small] <;> omega
    have g1 : (i : Int) < (l.length : Int) := by omega
    rw [hg]
    generalize hgx : l[i] = s at *
    have hf := ev_find (h.push []) s
    have hml : ((look S s).getD Cls.zero).ms.length ≤ 100000 := by
      cases hk : look S s with
      | none => simp [Cls.zero]
      | some x => exact hms x (look_mem hk).1
    have hin := dm_loop h hms c l i ((look S s).getD Cls.zero).ms hml
    unfold done1
    unfold findV at hf
    generalize (look S s).getD Cls.zero = x at *
    generalize (look S s).isSome = b at *
    generalize x.ms.all (doneM S c.n) = r at *
    unfold Cls.v at hf
    unfold dmSt doSt at hin
    unfold doSt
    unfold Cls.cells at *
    simp only [Int.cast_ofNat_Int] at hin
    cases r <;> simp at hin <;> simp [L51_1, g1, hix, hi, hgx, w1, hf, hin]
  rw [all_range _ []]
  have := loop_find (doSt k c M l) l.length (fun i => done1 S c.n (l.getD i [])) (.exit 0, { env := [], mem := [] :: M }) (.ret, { env := [(4, .bool false)], mem := [] :: M }) (fun j hj hp => by rw [key j hj, if_pos hp]) (fun j hj hp => by rw [key j hj, if_neg (by rw [hp]; decide)]) (by unfold doSt Cls.cells; simp [L51_1]) (by simp) (by simp)
  rw [this]
  simp only [decide_eq_true_eq]
theorem sortT_len (l : List Nm) : (sortT l).length = l.length := List.length_mergeSort l
theorem ev_done {F : Mem} {O A : Boxes} (hO : Num O) (hA : Num A) (h : Held (mm F O A) k t q S) (hlim : Lim S) (c : Cls) : ∃ x y, ev tab prim 51 [.ptr 0 k 0, c.v] (mm F O A) = some (.bool (doneP S c), mm F (O ++ x) (A ++ y)) ∧ Num (O ++ x) ∧ Num (A ++ y) := by
  have hms : ∀ c ∈ S, c.ms.length ≤ 100000 := fun c hc => (hlim.own c hc).2.2.1
  cases ha : c.a with
  | true =>
    refine ⟨[], [], ?_, by simpa using hO, by simpa using hA⟩
    unfold doneP Cls.v Cls.cells
    rw [ev_fn' tab prim (f := 51) rfl _ _ rfl]
    simp [ha]
  | false =>
    have hch := ev_chain (h.push []) c.n
    obtain ⟨x, hI⟩ := ev_Interfaces (F := [] :: F) hO hA (h.any) hlim c.n
    have hH : Held (mm F (O ++ [(O.length, [x])]) (A ++ [(A.length, [.mref O.length])])) k t q S := h.more _ _
    have hil := ifcs_len hlim c.n
    have hcl := chain_len S c.n
    have hfew := h.few
    have hsl := sortT_len (ifcs S c.n)
    have hL := do_loop hH hms c (chain S c.n ++ sortT (ifcs S c.n)) (by rw [List.length_append, hsl]; omega)
    have b1 : ((chain S c.n).length + (sortT (ifcs S c.n)).length) * 16 ≤ 140737488355328 := by rw [hsl]; omega
    have b2 : (chain S c.n).length + (sortT (ifcs S c.n)).length ≤ 140737488355328 := by rw [hsl]; omega
    refine ⟨[(O.length, [x])], [(A.length, [.mref O.length])], ?_, hO.add _, hA.add _⟩
    have c0 : ∀ O A, mm ([] :: F) O A = ([] : Boxes) :: mm F O A := fun _ _ => rfl
    simp only [c0] at hI
    unfold doneP
    unfold doSt at hL
    simp only [Int.cast_ofNat_Int] at hL
    rw [ha, Bool.false_or]
    unfold Cls.v
    unfold Cls.cells at *
    rw [ev_fn' tab prim (f := 51) rfl _ _ rfl]
    generalize (chain S c.n ++ sortT (ifcs S c.n)).all (done1 S c.n) = r at *
    rw [ha] at hL
    simp at hL
    cases r <;> simp at hL <;> simp [ha, hch, hI, hL, b1, b2]
end
end Go.Proofs.YtpajgenngpjbaaaGreat.Ev

/- doubled; a program's classes in order. -/
namespace Go.Proofs.YtpajgenngpjbaaaGreat.Ev
open Go

theorem flatC_okc (S : List Cls) : ∀ c ∈ flat (S.map Cls.v), okc c = true := by
  intro c hc
  induction S with
  | nil => simp [flat] at hc
  | cons m r ih =>
    simp only [List.map_cons, flat, List.mem_append] at hc
    rcases hc with hc | hc
    · simp only [Cls.v, V.cells, Cls.cells, List.mem_cons, List.not_mem_nil, or_false] at hc
      rcases hc with rfl | rfl | rfl | rfl | rfl | rfl | rfl <;> rfl
    · exact ih hc
theorem chunkC (S : List Cls) : chunk 7 S.length (flat (S.map Cls.v)) = S.map Cls.v := by
  induction S with
  | nil => rfl
  | cons m r ih =>
    rw [List.map_cons]
    show (if 7 = 1 then _ else V.agg ((flat (m.v :: r.map Cls.v)).take 7)) :: chunk 7 r.length ((flat (m.v :: r.map Cls.v)).drop 7) = _
    rw [if_neg (by decide)]
    have e : flat (m.v :: r.map Cls.v) = m.cells ++ flat (r.map Cls.v) := rfl
    rw [e, List.take_left' (show m.cells.length = 7 from rfl), List.drop_left' (show m.cells.length = 7 from rfl), ih]
    rfl
theorem flatC_all (S : List Cls) : (flat (S.map Cls.v)).all okc = true := List.all_eq_true.2 (flatC_okc S)
theorem flatC_ne {S : List Cls} (h : S ≠ []) : flat (S.map Cls.v) ≠ [] := by
  intro h0
  have := flatC_len S
  rw [h0] at this
  cases S with
  | nil => exact h rfl
  | cons _ _ => simp at this
def bM : Mem := [[], deadB 10 ++ [(10, flat (builtins.map Cls.v))]]
theorem bM_get : mget bM 0 10 = some (flat (builtins.map Cls.v)) := by
  generalize h : flat (builtins.map Cls.v) = X
  unfold bM
  rw [h]
  rfl
theorem bM_row : arowOf bM (.slc 0 10 0 7 12) = some (.list 7 (builtins.map Cls.v) true) := by
  have := arowOf_row (m := bM) (t := 10) (sz := 7) (n := 12) bM_get (by omega) (flatC_ne (by decide)) (flatC_len builtins) (flatC_all builtins)
  rw [this]
  have h2 := chunkC builtins
  rw [show builtins.length = 12 from rfl] at h2
  rw [h2]
theorem bM_adopt (m : Mem) : adopt bM (.slc 0 10 0 7 12) m = rowK 7 12 (mnew 0 (flat (builtins.map Cls.v)) m) := adopt_row bM_get (by omega) (flatC_ne (by decide)) (flatC_len builtins) (flatC_all builtins)

def dbl1 (c : Cls) (r : List Cls) : Bool := (builtins.any fun x => x.n == c.n) || r.any fun x => x.n == c.n
/-- The first class whose name another one has. -/
def dblG : List Cls → Option Nm
  | [] => none
  | c :: r => if dbl1 c r then some c.n else dblG r
theorem ev_doubled1 (x c : Cls) (M : Mem) : ev tab prim 80 [x.v, .cptr c.cells] M = some (.bool (x.n == c.n), M) := by
  unfold Cls.v Cls.cells
  rw [ev_fn' tab prim (f := 80) rfl _ _ rfl]
  simp
def dbSt (l : List Cls) (i : Nat) : St := { env := [(0, .list 7 (l.map Cls.v) false), (7, .list 7 (l.map Cls.v) false), (8, .int .i64 l.length), (9, .int .i64 i)], mem := [[], [], []] }
theorem db_loop (l : List Cls) (hl : l.length ≤ 100000) : ∀ (m i : Nat), i + m = l.length → cv tab prim (.loop L39_0) (dbSt l i) =
    some (match dblG (l.drop i) with | some n => (.ret, { env := [(2, .str n), (3, .bool true)], mem := [[], [], []] }) | none => (.exit 0, { env := [], mem := [[], [], []] })) := by
  intro m
  induction m with
  | zero =>
    intro i hi
    have h1 : ¬ (i : Int) < (l.length : Int) := by omega
    rw [cv_loop', List.drop_eq_nil_of_le (by omega)]
    unfold dbSt
    simp [L39_0, h1, dblG]
  | succ m ih =>
    intro i hi
    have hlt : i < l.length := by omega
    have h1 : (i : Int) < (l.length : Int) := by omega
    have hix : idxOk i l.length = true := by simp [idxOk]; omega
    have w1 : IntKind.i64.wrap ((i : Int) + 1) = ((i + 1 : Nat) : Int) := by rw [wrap_small] <;> omega
    have g2 : ((i : Int) + 1) ≤ (l.length : Int) := by omega
    have g0 : (0 : Int) ≤ (i : Int) + 1 := by omega
    have ih1 := ih (i + 1) (by omega)
    have hB := ev_Builtin
    have hr := bM_row
    unfold bM at hr
    rw [cv_loop', List.drop_eq_getElem_cons hlt, dblG]
    generalize hgx : l[i] = c at *
    have hc1 := ev_ixCC builtins (by decide) 80 [.cptr c.cells] (fun x => x.n == c.n) [[], [], []] (fun x _ => ev_doubled1 x c _) false
    have hc2 := ev_ixCC (l.drop (i + 1)) (by rw [List.length_drop]; omega) 80 [.cptr c.cells] (fun x => x.n == c.n) [[], [], []] (fun x _ => ev_doubled1 x c _) false
    rw [List.map_drop] at hc2
    unfold dbl1
    generalize (builtins.any fun x => x.n == c.n) = b1 at *
    generalize ((l.drop (i + 1)).any fun x => x.n == c.n) = b2 at *
    generalize builtins.map Cls.v = bv at *
    generalize deadB 10 ++ [(10, flat bv)] = ar at *
    have htk : (l.map Cls.v).take l.length = l.map Cls.v := List.take_of_length_le (by simp)
    have hn1 : ((i : Int) + 1).toNat = i + 1 := by omega
    unfold dbSt at ih1 ⊢
    unfold Cls.cells at hc1 hc2
    cases b1 with
    | true =>
      rw [Bool.true_or, if_pos rfl]
      simp [L39_0, h1, hix, hlt, hgx, w1, hB, hr, hc1, Cls.v, Cls.cells]
    | false =>
      cases b2 with
      | true =>
        rw [Bool.false_or, if_pos rfl]
        simp [L39_0, h1, hix, hlt, hgx, w1, hB, hr, hc1, hc2, Cls.v, Cls.cells, g2, g0, htk, hn1]
      | false =>
        rw [Bool.false_or, if_neg (by decide), ← ih1]
        simp [L39_0, h1, hix, hlt, hgx, w1, hB, hr, hc1, hc2, Cls.v, Cls.cells, g2, g0, htk, hn1]
theorem ev_doubled (l : List Cls) (hl : l.length ≤ 100000) : ev tab prim 39 [.list 7 (l.map Cls.v) false] [[], []] = some (.tup [.str ((dblG l).getD []), .bool (dblG l).isSome], [[], []]) := by
  have h := db_loop l hl l.length 0 (by omega)
  rw [List.drop_zero] at h
  unfold dbSt at h
  simp only [Int.cast_ofNat_Int] at h
  rw [ev_fn' tab prim (f := 39) rfl _ _ rfl]
  cases hd : dblG l <;> rw [hd] at h <;> simp at h <;> simp [h]
end Go.Proofs.YtpajgenngpjbaaaGreat.Ev

/- Classes (walk), the loops: checks, appends. -/
namespace Go.Proofs.YtpajgenngpjbaaaGreat.Ev
open Go

/-! ### Boxes behind others -/
theorem bput_behind {A : Boxes} (hA : Num A) {t : Nat} (ht : A.length ≤ t) (y : Boxes) (v : List V) : bput (A ++ y) t v = A ++ bput y t v := by
  have : ∀ (c : Boxes), (∀ p ∈ c, p.1 < t) → bput (c ++ y) t v = c ++ bput y t v := by
    intro c
    induction c with
    | nil => intro _; rfl
    | cons p r ih =>
      intro hp
      obtain ⟨s, w⟩ := p
      have hs : s < t := hp _ (List.mem_cons_self ..)
      rw [List.cons_append, bput_cons, if_neg (by omega), if_neg (by omega), ih fun q hq => hp q (by simp [hq])]
      rfl
  exact this A fun p hp => Nat.lt_of_lt_of_le (hA p hp) ht
theorem bput_len : ∀ (b : Boxes) (t : Nat) (v : List V), b.length ≤ (bput b t v).length
  | [], t, v => by simp
  | (s, w) :: r, t, v => by
    rw [bput_cons]
    split
    · simp
    · split
      · simp
      · simp; exact bput_len r t v
theorem bput_mem : ∀ (b : Boxes) (t : Nat) (v : List V) (p : Nat × List V), p ∈ bput b t v → p ∈ b ∨ p.1 = t
  | [], t, v, p, h => by simp at h; exact .inr (by rw [h])
  | (s, w) :: r, t, v, p, h => by
    rw [bput_cons] at h
    split at h
    · rcases List.mem_cons.1 h with h | h
      · exact .inr (by rw [h])
      · exact .inl (by simp [h])
    · split at h
      · rcases List.mem_cons.1 h with h | h
        · exact .inr (by rw [h])
        · exact .inl h
      · rcases List.mem_cons.1 h with h | h
        · exact .inl (by simp [h])
        · rcases bput_mem r t v p h with h | h
          · exact .inl (by simp [h])
          · exact .inr h
theorem Num.bput {b : Boxes} (h : Num b) {t : Nat} (ht : t < b.length) (v : List V) : Num (bput b t v) := by
  intro p hp
  have hl := bput_len b t v
  rcases bput_mem b t v p hp with h1 | h1
  · have := h p h1; omega
  · omega
theorem Num.lt {b : Boxes} (h : Num b) {t : Nat} {cs : List V} (hg : bget b t = some cs) : t < b.length := by
  rcases Nat.lt_or_ge t b.length with h1 | h1
  · exact h1
  · have : ∀ (c : Boxes) (n : Nat), (∀ p ∈ c, p.1 < n) → n ≤ t → bget c t = none := by
      intro c n
      induction c with
      | nil => intro _ _; rfl
      | cons p r ih =>
        intro hp hn
        obtain ⟨s, w⟩ := p
        have hs : s < n := hp _ (List.mem_cons_self ..)
        rw [bget_cons, if_neg (by omega), ih (fun q hq => hp q (by simp [hq])) hn]
    rw [this b _ h h1] at hg; cases hg

/-! ### Every class is checked -/
structure GoodC (c : Cls) : Prop where
  wf : c.Wf
  small : c.Small
def errG : List Cls → Option (Int × Nm)
  | [] => none
  | c :: r => if c.err = 0 then errG r else some (c.err, c.n)
def clkSt (l : List Cls) (M : Mem) (i : Nat) : St := { env := [(0, .list 7 (l.map Cls.v) false), (19, .list 7 (l.map Cls.v) false), (20, .int .i64 l.length), (21, .int .i64 i)], mem := M }
theorem ck_loop (l : List Cls) (hg : ∀ c ∈ l, GoodC c) (hl : l.length ≤ 100000) (M : Mem) : ∀ (m i : Nat), i + m = l.length → cv tab prim (.loop L10_0) (clkSt l M i) =
    some (match errG (l.drop i) with | some (e, n) => (.goto 0, { env := [(3, .int .i64 e), (4, .str n)], mem := M }) | none => (.exit 0, { env := [(0, .list 7 (l.map Cls.v) false)], mem := M })) := by
  intro m
  induction m with
  | zero =>
    intro i hi
    have h1 : ¬ (i : Int) < (l.length : Int) := by omega
    rw [cv_loop', List.drop_eq_nil_of_le (by omega)]
    unfold clkSt
    simp [L10_0, h1, errG]
  | succ m ih =>
    intro i hi
    have hlt : i < l.length := by omega
    have h1 : (i : Int) < (l.length : Int) := by omega
    have hix : idxOk i l.length = true := by simp [idxOk]; omega
    have w1 : IntKind.i64.wrap ((i : Int) + 1) = ((i + 1 : Nat) : Int) := by rw [wrap_small] <;> omega
    have ih1 := ih (i + 1) (by omega)
    have hgc := hg l[i] (List.getElem_mem hlt)
    rw [cv_loop', List.drop_eq_getElem_cons hlt, errG]
    generalize hgx : l[i] = c at *
    have hC := ev_Check c hgc.wf hgc.small
    generalize c.err = e at *
    unfold clkSt at ih1 ⊢
    unfold Cls.v Cls.cells at hC
    by_cases he : e = 0
    · subst he
      rw [if_pos rfl, ← ih1]
      simp [L10_0, h1, hix, hlt, hgx, w1, hC, Cls.v, Cls.cells]
    · rw [if_neg he]
      have he2 : (e != 0) = true := by simpa using he
      simp [L10_0, h1, hix, hlt, hgx, w1, hC, Cls.v, Cls.cells, he2]

/-! ### The classes go behind the given ones -/
theorem GoodC.own {c : Cls} (h : GoodC c) : c.OwnOk := by
  have hs := h.small
  refine ⟨by have := hs.im; omega, by have := hs.fs; omega, by have := hs.ms; omega, fun m hm => ?_⟩
  have := hs.mss m hm
  exact ⟨by have := this.code; omega, by have := this.hs; omega⟩
def apSt (l : List Cls) (k : Nat) (M : Mem) (i : Nat) : St := { env := [(0, .list 7 (l.map Cls.v) false), (2, .ptr 0 k 0), (3, .int .i64 8), (42, .list 7 (l.map Cls.v) false), (43, .int .i64 l.length), (44, .int .i64 i)], mem := M }
theorem ap_loop (l : List Cls) (hg : ∀ c ∈ l, GoodC c) (hl : l.length ≤ 1000) (F : Mem) (O A : Boxes) (hA : Num A) (k q : Nat) (hk : A.length ≤ k) : ∀ (m i t : Nat) (y : Boxes), i + m = l.length → Num (A ++ y) → A.length ≤ t → k ≠ t →
    bget (A ++ y) k = some [.slc 0 t 0 7 (12 + i), .mref q] → bget (A ++ y) t = some (flat ((builtins ++ l.take i).map Cls.v)) →
    ∃ t' y', Num (A ++ y') ∧ A.length ≤ t' ∧ k ≠ t' ∧ bget (A ++ y') k = some [.slc 0 t' 0 7 (12 + l.length), .mref q] ∧ bget (A ++ y') t' = some (flat ((builtins ++ l).map Cls.v)) ∧
      cv tab prim (.loop L10_1) (apSt l k (mm ([] :: F) O (A ++ y)) i) = some (.exit 2, { env := [(0, .list 7 (l.map Cls.v) false), (2, .ptr 0 k 0), (3, .int .i64 8)], mem := mm ([] :: F) O (A ++ y') }) := by
  intro m
  induction m with
  | zero =>
    intro i t y hi hn ht hkt h1 h2
    obtain rfl : i = l.length := by omega
    rw [List.take_length] at h2
    refine ⟨t, y, hn, ht, hkt, h1, h2, ?_⟩
    rw [cv_loop']
    unfold apSt
    simp [L10_1]
  | succ m ih =>
    intro i t y hi hn ht hkt h1 h2
    have hlt : i < l.length := by omega
    have g1 : (i : Int) < (l.length : Int) := by omega
    have hix : idxOk i l.length = true := by simp [idxOk]; omega
    have w1 : IntKind.i64.wrap ((i : Int) + 1) = ((i + 1 : Nat) : Int) := by rw [wrap_small] <;> omega
    have hgc := (hg l[i] (List.getElem_mem hlt)).own
    obtain ⟨Mo, hO⟩ := ev_Own l[i] hgc.1 hgc.2.1 hgc.2.2.1 hgc.2.2.2
    have htk : l.take (i + 1) = l.take i ++ [l[i]] := List.take_succ_eq_append_getElem hlt
    have hFl := flatC_len (builtins ++ l.take i)
    have hFo := flatC_all (builtins ++ l.take i)
    have hFn : flat ((builtins ++ l.take i).map Cls.v) ≠ [] := flatC_ne (by intro h0; have := congrArg List.length h0; simp [builtins] at this)
    have hbl : (builtins ++ l.take i).length = 12 + i := by rw [List.length_append, List.length_take, show builtins.length = 12 from rfl]; omega
    have hF1 : flat ((builtins ++ l.take (i + 1)).map Cls.v) = flat ((builtins ++ l.take i).map Cls.v) ++ l[i].cells := by
      rw [htk, ← List.append_assoc, List.map_append, flat_append]
      simp [flat, Cls.v, V.cells]
    rw [hbl] at hFl
    generalize hgx : l[i] = c at *
    generalize flat ((builtins ++ l.take i).map Cls.v) = X at *
    have htl := hn.lt h2
    have hkl := hn.lt h1
    have e1 : bput (A ++ y) t [] = A ++ bput y t [] := bput_behind hA ht y []
    have hn1 : Num (A ++ bput y t []) := by rw [← e1]; exact hn.bput htl []
    have hfit : appbFits 7 112 (12 + i) 1 = true := by simp [appbFits]; omega
    have hap : rAppb 7 112 [.slc 0 t 0 7 (12 + i), .list 7 [c.v] false] (mm ([] :: F) O (A ++ y)) = some (.slc 0 (A ++ bput y t []).length 0 7 (12 + i + 1), mm ([] :: F) O ((A ++ bput y t []) ++ [((A ++ bput y t []).length, X ++ c.cells)])) := by
      simp only [rAppb, mget_A, h2, Option.bind_some]
      rw [if_pos ⟨trivial, trivial, trivial, trivial, hFn, by simp, hFl, hFo, by simpa using hfit⟩, mput_A, e1, mnew_A _ _ hn1]
      simp [flat, Cls.v, V.cells]
    generalize hz : bput y t [] = z at *
    have hzk : bget (A ++ z) k = some [.slc 0 t 0 7 (12 + i), .mref q] := by rw [← e1, bget_bput, if_neg hkt]; exact h1
    have hkz := hn1.lt hzk
    have e2 : ∀ v, bput ((A ++ z) ++ [((A ++ z).length, X ++ c.cells)]) k v = A ++ bput (z ++ [((A ++ z).length, X ++ c.cells)]) k v := fun v => by
      rw [List.append_assoc]; exact bput_behind hA hk _ v
    have hn2 : Num ((A ++ z) ++ [((A ++ z).length, X ++ c.cells)]) := hn1.add _
    have hn3 := hn2.bput (t := k) (by simp at hkz ⊢; omega) [.slc 0 (A ++ z).length 0 7 (12 + i + 1), .mref q]
    rw [e2] at hn3
    obtain ⟨t', y', r1, r2, r3, r4, r5, r6⟩ := ih (i + 1) (A ++ z).length (bput (z ++ [((A ++ z).length, X ++ c.cells)]) k [.slc 0 (A ++ z).length 0 7 (12 + i + 1), .mref q]) (by omega) hn3 (by simp) (by omega)
      (by rw [← e2, bget_bput, if_pos rfl]; rfl)
      (by rw [← e2, bget_bput, if_neg (by omega), hF1]; exact hn1.get _)
    refine ⟨t', y', r1, r2, r3, r4, r5, ?_⟩
    rw [cv_loop', ← r6]
    have hzk2 : bget ((A ++ z) ++ [((A ++ z).length, X ++ c.cells)]) k = some [.slc 0 t 0 7 (12 + i), .mref q] := bget_add hzk _
    have e3 := e2 [.slc 0 (A ++ z).length 0 7 (12 + i + 1), .mref q]
    unfold apSt
    unfold Cls.v Cls.cells at hO hap
    rw [← e3]
    unfold Cls.cells at hzk2 ⊢
    generalize (A ++ z).length = nt at *
    generalize A ++ z = B at *
    try simp at hap
    simp [L10_1, g1, hix, hlt, hgx, w1, h1, hO, hap, hzk2, Cls.v, Cls.cells]
end Go.Proofs.YtpajgenngpjbaaaGreat.Ev

/- Classes (walk), the loops: the order, the map, the rules. -/
namespace Go.Proofs.YtpajgenngpjbaaaGreat.Ev
open Go

def sortC (l : List Cls) : List Cls := l.mergeSort fun a b => decide (a.n ≤ b.n)
theorem sortRows_C (l : List Cls) : sortRows (l.map Cls.v) = (sortC l).map Cls.v := by
  unfold sortRows sortC
  rw [← List.map_mergeSort]
  intro a _ b _
  rfl
theorem sortC_perm (l : List Cls) : (sortC l).Perm l := List.mergeSort_perm ..
theorem sortC_len (l : List Cls) : (sortC l).length = l.length := List.length_mergeSort l
theorem ev_SortFunc (F : Mem) (O B : Boxes) (t : Nat) (T : List Cls) (hT : T ≠ []) (hl : T.length ≤ 1000000) (hn : (T.map (·.n)).Nodup) (hB : bget B t = some (flat (T.map Cls.v))) :
    ev tab prim 42 [.slc 0 t 0 7 T.length, .func (.func 43) [] []] (mm F O B) = some (.tup [], mm F O (bput B t (flat ((sortC T).map Cls.v)))) := by
  have c1 : (T.map Cls.v).all rowStr = true := by
    rw [List.all_eq_true]
    intro x hx
    obtain ⟨c, _, rfl⟩ := List.mem_map.1 hx
    rfl
  have c2 : ((T.map Cls.v).map rowName).Nodup := by
    rw [List.map_map]
    exact hn
  rw [ev_prim tab prim rfl]
  show sortP (mm F O B) t T.length = _
  unfold sortP
  rw [mget_A, hB, Option.bind_some, chunkC, sortRows_C, mput_A, if_pos ⟨flatC_ne hT, flatC_len T, flatC_all T, hl, c1, c2⟩]

theorem ixV_add : ∀ (S : List Cls) (j : Nat) (c : Cls), ixV j (S ++ [c]) = ixV j S ++ [.int .i64 ((j + S.length : Nat) : Int)]
  | [], j, c => by simp [ixV]
  | a :: r, j, c => by
    simp only [List.cons_append, ixV, ixV_add r (j + 1) c, List.length_cons]
    congr 3
    rw [show j + 1 + r.length = j + (r.length + 1) by omega]
theorem setK_new : ∀ (ks : List Nm) (vs : List V) (x : Nm) (y : V), vs.length = ks.length → ks.contains x = false → setK (ks.map V.str) vs (.str x) y = (ks.map V.str ++ [.str x], vs ++ [y])
  | [], vs, x, y, hl, _ => by
    cases vs with
    | nil => rfl
    | cons _ _ => simp at hl
  | a :: r, vs, x, y, hl, h => by
    cases vs with
    | nil => simp at hl
    | cons v vs =>
      simp only [List.contains_cons, Bool.or_eq_false_iff] at h
      simp only [List.map_cons, setK, keyEq, h.1, cond_false, setK_new r vs x y (by simpa using hl) h.2, List.cons_append]
def atO (S : List Cls) : V := .mapv none (S.map fun c => .str c.n) (ixV 0 S)
def atSt (l : List Cls) (S : List Cls) (k t : Nat) (F : Mem) (O B : Boxes) (i : Nat) : St :=
  { env := [(0, .list 7 (l.map Cls.v) false), (2, .ptr 0 k 0), (3, .int .i64 8), (68, .slc 0 t 0 7 S.length), (69, .int .i64 S.length), (70, .int .i64 i)], mem := mm ([] :: F) (O ++ [(O.length, [atO (S.take i)])]) B }
theorem at_loop (l S : List Cls) (hS : S.length ≤ 1000) (hn : (S.map (·.n)).Nodup) (k t : Nat) (F : Mem) (O B : Boxes) (hO : Num O) (hk : bget B k = some [.slc 0 t 0 7 S.length, .mref O.length]) (ht : bget B t = some (flat (S.map Cls.v))) :
    cv tab prim (.loop L10_2) (atSt l S k t F O B 0) = some (.exit 4, { env := [(0, .list 7 (l.map Cls.v) false), (2, .ptr 0 k 0), (3, .int .i64 8)], mem := mm ([] :: F) (O ++ [(O.length, [atO S])]) B }) := by
  refine loop_all (atSt l S k t F O B) S.length _ (fun i hi => ?_) ?_ (by simp)
  · have hc := flatC_at S i hi
    have hix : idxOk i S.length = true := by simp [idxOk]; omega
    have w1 : IntKind.i64.wrap ((i : Int) + 1) = ((i + 1 : Nat) : Int) := by rw [wrap_small] <;> omega
    have g1 : (i : Int) < (S.length : Int) := by omega
    have htk : S.take (i + 1) = S.take i ++ [S[i]] := List.take_succ_eq_append_getElem hi
    have hfr : ((S.take i).map (·.n)).contains S[i].n = false := by
      have h2 : ((S.take (i + 1)).map (·.n)).Nodup := by
        rw [List.map_take]
        exact hn.sublist (List.take_sublist _ _)
      rw [htk, List.map_append, List.nodup_append] at h2
      have := h2.2.2
      cases hcc : ((S.take i).map (·.n)).contains S[i].n with
      | false => rfl
      | true => exact absurd rfl (this _ (by simpa using hcc) S[i].n (by simp))
    have hset := setK_new ((S.take i).map (·.n)) (ixV 0 (S.take i)) S[i].n (.int .i64 i) (by rw [ixV_length, List.length_map]) hfr
    have hat : atO (S.take (i + 1)) = .mapv none (((S.take i).map (·.n)).map V.str ++ [.str S[i].n]) (ixV 0 (S.take i) ++ [.int .i64 i]) := by
      unfold atO
      rw [htk, List.map_append, ixV_add, List.length_take, show min i S.length = i by omega, Nat.zero_add, List.map_map]
      rfl
    have hat0 : atO (S.take i) = .mapv none (((S.take i).map (·.n)).map V.str) (ixV 0 (S.take i)) := by
      unfold atO
      rw [List.map_map]
      rfl
    have hgo : bget (O ++ [(O.length, [atO (S.take i)])]) O.length = some [atO (S.take i)] := hO.get _
    have hpo := hO.put [atO (S.take i)] [atO (S.take (i + 1))]
    unfold atSt
    rw [hat0] at hgo hpo ⊢
    rw [hat] at hpo ⊢
    generalize flat (S.map Cls.v) = X at *
    generalize S[i] = c at *
    generalize ((S.take i).map (·.n)).map V.str = K1 at *
    generalize ixV 0 (S.take i) = K2 at *
    unfold Cls.cells at hc
    simp [L10_2, g1, hix, ht, hc, w1, hk, hgo, isKey, hset, hpo]
  · unfold atSt
    rw [List.take_length]
    simp [L10_2]

/-! ### The rules -/
def rulesP (S : List Cls) : List (Cls → Bool) := [superP S, implP S, straightP S, apartP, faceP, wholeP, doneP S]
def ruleFs : List Nat := [45, 46, 47, 48, 49, 50, 51]
/-- A rule's call, in whatever memory the program stands. -/
def RuleOk (k t q : Nat) (S l : List Cls) (f : Nat) (P : Cls → Bool) : Prop := ∀ (F : Mem) (O A : Boxes) (c : Cls), c ∈ l → Num O → Num A → Held (mm F O A) k t q S →
  ∃ x y, ev tab prim f [.ptr 0 k 0, c.v] (mm F O A) = some (.bool (P c), mm F (O ++ x) (A ++ y)) ∧ Num (O ++ x) ∧ Num (A ++ y)
theorem rule_of {k t q : Nat} {S l : List Cls} {f : Nat} {P : Cls → Bool} (h : ∀ (M : Mem) (c : Cls), c ∈ l → Held M k t q S → ev tab prim f [.ptr 0 k 0, c.v] M = some (.bool (P c), M)) : RuleOk k t q S l f P := by
  intro F O A c hc hO hA hH
  exact ⟨[], [], by simpa using h _ c hc hH, by simpa using hO, by simpa using hA⟩
theorem rules_ok {k t q : Nat} {S l : List Cls} (hlim : Lim S) (hl : ∀ c ∈ l, c.OwnOk) : RuleOk k t q S l 45 (superP S) ∧ RuleOk k t q S l 46 (implP S) ∧ RuleOk k t q S l 47 (straightP S) ∧ RuleOk k t q S l 48 apartP ∧
    RuleOk k t q S l 49 faceP ∧ RuleOk k t q S l 50 wholeP ∧ RuleOk k t q S l 51 (doneP S) := by
  refine ⟨rule_of fun M c hc hH => ev_super hH c, rule_of fun M c hc hH => ev_implements hH c (hl c hc).1, ?_, rule_of fun M c hc hH => ev_apart c _ rfl (hl c hc).2.2.1 (hl c hc).2.1 M, rule_of fun M c hc hH => ev_face c _ rfl (hl c hc).2.2.1 (hl c hc).2.1 M,
    rule_of fun M c hc hH => ev_whole c _ rfl (hl c hc).2.2.1 M, ?_⟩
  · intro F O A c hc hO hA hH
    obtain ⟨x, hx⟩ := ev_straight hO hH hlim c
    exact ⟨[(O.length, [x])], [], by simpa using hx, hO.add _, by simpa using hA⟩
  · intro F O A c hc hO hA hH
    obtain ⟨x, y, h1, h2, h3⟩ := ev_done hO hA hH hlim c
    exact ⟨x, y, h1, h2, h3⟩

def badG (P : Cls → Bool) : List Cls → Option Nm
  | [] => none
  | c :: r => if P c then badG P r else some c.n
def rcSt (l : List Cls) (k : Nat) (r : V) (fs : List V) (j : Nat) (M : Mem) (i : Nat) : St :=
  { env := [(0, .list 7 (l.map Cls.v) false), (2, .ptr 0 k 0), (3, .int .i64 8), (13, r), (83, .list 1 fs true), (84, .int .i64 fs.length), (85, .int .i64 j), (89, .list 7 (l.map Cls.v) false), (90, .int .i64 l.length), (91, .int .i64 i)], mem := M }
theorem rc_loop (l : List Cls) (hl : l.length ≤ 1000) (k t q : Nat) (S : List Cls) (f : Nat) (P : Cls → Bool) (hR : RuleOk k t q S l f P) (fs : List V) (jj : Nat) (F : Mem) : ∀ (m i : Nat) (O A : Boxes), i + m = l.length → Num O → Num A → Held (mm ([] :: F) O A) k t q S →
    ∃ x y, Num (O ++ x) ∧ Num (A ++ y) ∧ cv tab prim (.loop L10_3) (rcSt l k (.func (.func f) [] []) fs jj (mm ([] :: F) O A) i) =
      some (match badG P (l.drop i) with
        | some n => (.goto 0, { env := [(3, .int .i64 8), (4, .str n)], mem := mm ([] :: F) (O ++ x) (A ++ y) })
        | none => (.exit 8, { env := [(0, .list 7 (l.map Cls.v) false), (2, .ptr 0 k 0), (3, .int .i64 8), (83, .list 1 fs true), (84, .int .i64 fs.length), (85, .int .i64 jj)], mem := mm ([] :: F) (O ++ x) (A ++ y) })) := by
  intro m
  induction m with
  | zero =>
    intro i O A hi hO hA hH
    have h1 : ¬ (i : Int) < (l.length : Int) := by omega
    refine ⟨[], [], by simpa using hO, by simpa using hA, ?_⟩
    rw [cv_loop', List.drop_eq_nil_of_le (by omega)]
    unfold rcSt
    simp [L10_3, h1, badG]
  | succ m ih =>
    intro i O A hi hO hA hH
    have hlt : i < l.length := by omega
    have h1 : (i : Int) < (l.length : Int) := by omega
    have hix : idxOk i l.length = true := by simp [idxOk]; omega
    have w1 : IntKind.i64.wrap ((i : Int) + 1) = ((i + 1 : Nat) : Int) := by rw [wrap_small] <;> omega
    obtain ⟨x, y, hc, hO1, hA1⟩ := hR ([] :: F) O A l[i] (List.getElem_mem hlt) hO hA hH
    have hH1 : Held (mm ([] :: F) (O ++ x) (A ++ y)) k t q S := hH.more x y
    obtain ⟨x2, y2, hO2, hA2, ih1⟩ := ih (i + 1) (O ++ x) (A ++ y) (by omega) hO1 hA1 hH1
    cases hp : P l[i] with
    | true =>
      rw [hp] at hc
      refine ⟨x ++ x2, y ++ y2, by rw [← List.append_assoc]; exact hO2, by rw [← List.append_assoc]; exact hA2, ?_⟩
      rw [cv_loop', List.drop_eq_getElem_cons hlt, badG, hp, if_pos rfl, ← List.append_assoc, ← List.append_assoc, ← ih1]
      generalize hgx : l[i] = c at *
      unfold rcSt
      unfold Cls.v Cls.cells at hc
      simp [L10_3, h1, hix, hlt, hgx, w1, hc, Cls.v, Cls.cells]
    | false =>
      rw [hp] at hc
      refine ⟨x, y, hO1, hA1, ?_⟩
      rw [cv_loop', List.drop_eq_getElem_cons hlt, badG, hp, if_neg (by decide)]
      generalize hgx : l[i] = c at *
      unfold rcSt
      unfold Cls.v Cls.cells at hc
      simp [L10_3, h1, hix, hlt, hgx, w1, hc, Cls.v, Cls.cells]
end Go.Proofs.YtpajgenngpjbaaaGreat.Ev

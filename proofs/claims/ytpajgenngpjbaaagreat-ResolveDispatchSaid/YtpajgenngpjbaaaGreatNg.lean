import Derived.Test.YtpajgenngpjbaaaGreatNf
import Derived.Test.YtpajgenngpjbaaaGreatKzs
/- The law ResolveDispatch. -/
namespace Go.Proofs.YtpajgenngpjbaaaGreat.Ev
open Go

def rdSt (p : V) (N : List Nm) (i : Nat) (al : List Nm) (k : Nat) (c : Cls) (j : Nat) (M : Mem) : St :=
  { env := [(3, p), (6, .list 1 (N.map V.str) false), (7, .int .i64 (i : Int)), (8, .list 1 (al.map V.str) false), (9, .int .i64 (k : Int)), (10, .cptr c.cells), (12, .int .i64 (j : Int))], mem := M }
def rkSt (p : V) (N : List Nm) (i : Nat) (al : List Nm) (k : Nat) (M : Mem) : St :=
  { env := [(3, p), (6, .list 1 (N.map V.str) false), (7, .int .i64 (i : Int)), (8, .list 1 (al.map V.str) false), (9, .int .i64 (k : Int))], mem := M }
def riSt (p : V) (N : List Nm) (i : Nat) (M : Mem) : St := { env := [(3, p), (6, .list 1 (N.map V.str) false), (7, .int .i64 (i : Int))], mem := M }

theorem rd_inner {k t q : Nat} {S : List Cls} {O A : Boxes} (hH : Held (mm [] O A) k t q S) (hL : Lim S) (hF : FineP S) (hK : Kin S) (N : List Nm) (i : Nat) (hi : i < N.length) (hN : N.length ≤ 1000)
    {cn : Cls} (hcn : look S N[i] = some cn) (s : Nm) (hs : s ∈ aboveL S N[i]) (al : List Nm) (kk : Nat) :
    cv tab prim (.loop L3_0) (rdSt (.ptr 0 k 0) N i al kk ((look S s).getD Cls.zero) 0 (mm [[]] O A)) = some (.exit 4, rkSt (.ptr 0 k 0) N i al kk (mm [[]] O A)) := by
  have hP : ProgAt (.ptr 0 k 0) S O A := .held k t q rfl hH hL
  have hM : (100000 : Nat) ≤ maxLen := by decide
  have hcl := (look_own hP.own s).2.2.1
  have hmem : ∀ m ∈ ((look S s).getD Cls.zero).ms, m ∈ ((look S s).getD Cls.zero).ms := fun _ h => h
  have hSup := at_Supers hP [[]] N[i]
  have hCon : ev tab prim 17 [.ptr 0 k 0, .str N[i]] (mm [[]] O A) = some (.bool ((look S N[i]).isSome && !((look S N[i]).getD Cls.zero).a), mm [[]] O A) := ev_Concrete hH.any N[i]
  have hix : idxOk i N.length = true := by simp [idxOk]; omega
  have hxN : (N.map V.str)[i]? = some (.str N[i]) := by simp [hi]
  have hNl : (N.map V.str).length = N.length := List.length_map ..
  have hch := chain_len S N[i]
  have hfew := hH.few
  rw [hcn] at hCon
  simp only [Option.isSome_some, Option.getD_some, Bool.true_and] at hCon
  generalize hgc : (look S s).getD Cls.zero = c at *
  have m0 : ∀ O A, mm [[]] O A = [[], O, A] := fun _ _ => rfl
  refine loop_all (rdSt (.ptr 0 k 0) N i al kk c · (mm [[]] O A)) c.ms.length _ (fun j hj => ?_) ?_ (by simp)
  · have g1 : (j : Int) < (c.ms.length : Int) := by omega
    have w1 : IntKind.i64.wrap ((j : Int) + 1) = ((j + 1 : Nat) : Int) := by rw [wrap_small] <;> omega
    have hjx : idxOk j c.ms.length = true := by simp [idxOk]; omega
    have hxm : (c.ms.map Mth.v)[j]? = some c.ms[j].v := by simp [hj]
    have hml : (c.ms.map Mth.v).length = c.ms.length := List.length_map ..
    have hmm := List.getElem_mem hj
    generalize c.ms[j] = m at *
    have hD := at_Dispatch hP [[]] N[i] m.n m.d
    unfold mthV at hD
    unfold rdSt Cls.cells
    generalize c.ms.map Mth.v = X at *
    generalize N.map V.str = Y at *
    cases hd : dspF S N[i] m.n m.d with
    | some om =>
      obtain ⟨o, dm⟩ := om
      obtain ⟨f1, f2, f3, f4, f5⟩ := dsp_fine hF hd
      have hHas := ev_Has (chain S N[i]) o (by omega) false
      have hcon : (chain S N[i]).contains o = true := by simpa using f5
      rw [hcon] at hHas
      rw [hd] at hD
      simp only [Option.map_some, Option.getD_some, Option.isSome_some] at hD
      unfold Mth.v Mth.cells at hD hxm
      rw [f1, f2, f3, f4] at hD
      generalize chain S N[i] = C at *
      generalize N[i] = n at *
      rw [m0] at hD hSup ⊢
      have e1 : (m.n == m.n) = true := beq_self_eq_true _
      have e2 : (m.d == m.d) = true := beq_self_eq_true _
      simp [L3_0, g1, w1, hix, hxN, hNl, hjx, hxm, hml, hD, hSup, hHas, bne]
    | none =>
      have hS := dsp_none hF hK (n := N[i]) (s := s) (m := m) hcn
      rw [hgc] at hS
      rw [hd] at hD
      simp only [Option.map_none, Option.getD_none, Option.isSome_none] at hD
      unfold mth0 Mth.v Mth.cells at hD
      unfold Mth.v Mth.cells at hxm
      simp only [List.map_nil] at hD
      have hor : cn.a = true ∨ (cn.a = false ∧ m.s = true) := by
        cases ha : cn.a with
        | true => exact .inl rfl
        | false => exact .inr ⟨rfl, hS ha hs hmm hd⟩
      generalize N[i] = n at *
      rw [m0] at hD hCon ⊢
      rcases hor with ha | ⟨ha, hms⟩
      · rw [ha] at hCon
        simp [L3_0, g1, w1, hix, hxN, hNl, hjx, hxm, hml, hD, hCon]
      · rw [ha] at hCon
        rw [hms] at hxm
        simp [L3_0, g1, w1, hix, hxN, hNl, hjx, hxm, hml, hD, hCon]
  · unfold rdSt rkSt Cls.cells
    simp [L3_0]

theorem rd_mid {k t q : Nat} {S : List Cls} {O A : Boxes} (hH : Held (mm [] O A) k t q S) (hL : Lim S) (hF : FineP S) (hK : Kin S) (N : List Nm) (i : Nat) (hi : i < N.length) (hN : N.length ≤ 1000)
    {cn : Cls} (hcn : look S N[i] = some cn) : 
    cv tab prim (.loop L3_1) (rkSt (.ptr 0 k 0) N i (aboveL S N[i]) 0 (mm [[]] O A)) = some (.exit 2, riSt (.ptr 0 k 0) N i (mm [[]] O A)) := by
  have hP : ProgAt (.ptr 0 k 0) S O A := .held k t q rfl hH hL
  have hal := aboveL_len hP N[i]
  have m0 : ∀ O A, mm [[]] O A = [[], O, A] := fun _ _ => rfl
  have hin := fun (j : Nat) (hj : j < (aboveL S N[i]).length) => rd_inner hH hL hF hK N i hi hN hcn (aboveL S N[i])[j] (List.getElem_mem hj) (aboveL S N[i]) j
  generalize aboveL S N[i] = al at *
  refine loop_all (rkSt (.ptr 0 k 0) N i al · (mm [[]] O A)) al.length _ (fun j hj => ?_) ?_ (by simp)
  · have g1 : (j : Int) < (al.length : Int) := by omega
    have w1 : IntKind.i64.wrap ((j : Int) + 1) = ((j + 1 : Nat) : Int) := by rw [wrap_small] <;> omega
    have hjx : idxOk j al.length = true := by simp [idxOk]; omega
    have hx : (al.map V.str)[j]? = some (.str al[j]) := by simp [hj]
    have hl : (al.map V.str).length = al.length := List.length_map ..
    have hin := hin j hj
    have hC := at_Class hP [[]] al[j]
    unfold findV at hC
    unfold rdSt rkSt at hin
    unfold rkSt
    generalize (look S al[j]).getD Cls.zero = c at *
    generalize (look S al[j]).isSome = b at *
    unfold Cls.cells at hin
    unfold Cls.v Cls.cells at hC
    generalize al[j] = s at *
    generalize al.map V.str = X at *
    generalize N.map V.str = Y at *
    rw [m0] at hC hin ⊢
    simp only [Int.natCast_zero] at hin
    simp [L3_1, g1, w1, hjx, hx, hl, hC, hin]
  · unfold rkSt riSt
    simp [L3_1]

theorem rd_outer {k t q : Nat} {S : List Cls} (hL : Lim S) (hF : FineP S) (hK : Kin S) (N : List Nm) (hN : N.length ≤ 1000) (hNk : ∀ n ∈ N, (look S n).isSome = true) : ∀ (m i : Nat) (O A : Boxes), i + m = N.length → Num O → Num A → Held (mm [] O A) k t q S →
    ∃ x y, cv tab prim (.loop L3_2) (riSt (.ptr 0 k 0) N i (mm [[]] O A)) = some (.exit 0, { env := [], mem := mm [[]] (O ++ x) (A ++ y) }) := by
  have m0 : ∀ O A, mm [[]] O A = [[], O, A] := fun _ _ => rfl
  intro m
  induction m with
  | zero =>
    intro i O A hi hO hA hH
    refine ⟨[], [], ?_⟩
    have h1 : ¬ (i : Int) < (N.length : Int) := by omega
    rw [List.append_nil, List.append_nil, cv_loop']
    unfold riSt
    simp [L3_2, h1]
  | succ m ih =>
    intro i O A hi hO hA hH
    have hlt : i < N.length := by omega
    have h1 : (i : Int) < (N.length : Int) := by omega
    have w1 : IntKind.i64.wrap ((i : Int) + 1) = ((i + 1 : Nat) : Int) := by rw [wrap_small] <;> omega
    have hix : idxOk i N.length = true := by simp [idxOk]; omega
    have hx : (N.map V.str)[i]? = some (.str N[i]) := by simp [hlt]
    have hl : (N.map V.str).length = N.length := List.length_map ..
    have hP : ProgAt (.ptr 0 k 0) S O A := .held k t q rfl hH hL
    have hS := at_Supers hP [[]] N[i]
    obtain ⟨x, y, hO2, hA2, hI⟩ := at_Interfaces hP hO hA [[]] N[i]
    have hH2 := hH.more (F' := []) x y
    obtain ⟨cn, hcn⟩ := Option.isSome_iff_exists.1 (hNk _ (List.getElem_mem hlt))
    have hmid := rd_mid hH2 hL hF hK N i hlt hN hcn
    obtain ⟨x2, y2, ih⟩ := ih (i + 1) _ _ (by omega) hO2 hA2 hH2
    have hal := aboveL_len hP N[i]
    refine ⟨x ++ x2, y ++ y2, ?_⟩
    rw [← List.append_assoc, ← List.append_assoc, ← ih, cv_loop']
    clear ih
    unfold aboveL at hmid hal
    rw [List.length_append] at hal
    unfold rkSt riSt at hmid
    unfold riSt
    simp only [Int.natCast_zero, List.map_append] at hmid
    generalize sortT (ifcs S N[i]) = I at *
    generalize chain S N[i] = C at *
    have b1 : C.length ≤ 140737488355328 := by omega
    have b2 : C.length * 16 ≤ 140737488355328 := by omega
    have b3 : C.length + I.length ≤ 140737488355328 := by omega
    have b4 : (C.length + I.length) * 16 ≤ 140737488355328 := by omega
    generalize N[i] = n at *
    generalize N.map V.str = Y at *
    simp only [m0] at hS hI hmid ⊢
    simp [L3_2, h1, w1, hix, hx, hl, hS, hI, hmid, b1, b2, b3, b4]

theorem classesE_code' {l : List Cls} {e : Int} {n : Nm} (h : classesE l = some (e, n)) : e ≠ 0 := classesE_code h
theorem ev_lawDispatch (l : List Cls) (hw : ∀ c ∈ l, c.Wf) (hl : l.length ≤ maxLen) : ∃ O A, ev tab prim 3 [.list 7 (l.map Cls.v) false] [[], []] = some (.bool true, [O, A]) := by
  obtain ⟨aO, aA, ha⟩ := ev_resAwake
  have hC := ev_alikeClasses l hw hl false
  by_cases h0 : clsSum 0 l ≤ 12000
  case neg =>
    refine ⟨[], [], ?_⟩
    rw [decide_eq_false h0] at hC
    generalize l.map Cls.v = X at *
    rw [ev_fn' tab prim (f := 3) rfl _ _ rfl]
    simp [hC, ha]
  rw [decide_eq_true h0] at hC
  have hgl := good_size hw h0
  obtain ⟨x, y, hO, hA, h1⟩ := ev_Classes l (fun _ => hgl) [[]] [] [] num_nil num_nil false
  simp only [List.nil_append] at hO hA h1
  have m0 : ∀ O A, mm [[]] O A = [[], O, A] := fun _ _ => rfl
  cases he : classesE l with
  | some p =>
    obtain ⟨e, n⟩ := p
    have e0 : e ≠ 0 := classesE_code he
    rw [he] at h1
    dsimp only at h1
    rw [m0, m0] at h1
    refine ⟨x, y, ?_⟩
    generalize l.map Cls.v = X at *
    have b1 : (e == 0) = false := by simpa using e0
    have b2 : (e != 0) = true := by simpa using e0
    rw [ev_fn' tab prim (f := 3) rfl _ _ rfl]
    simp [hC, ha, h1, e0, b1, b2]
  | none =>
    rw [he] at h1
    obtain ⟨k, t, q, hH, h1⟩ := h1
    have hN := ev_Names hH
    have hfew := hH.few
    have hlim := prog_lim hgl
    have hF := fine_of he
    have hK := kin_of he
    obtain ⟨x2, y2, hL⟩ := rd_outer hlim hF hK ((prog l).map (·.n)) (by rw [List.length_map]; exact hfew) (fun n hn => by
      obtain ⟨c, hc, rfl⟩ := List.mem_map.1 hn
      rw [look_some hF.nd hc]; rfl) _ 0 x y (Nat.zero_add _) hO hA hH.any
    refine ⟨x ++ x2, y ++ y2, ?_⟩
    unfold riSt at hL
    simp only [m0, Int.natCast_zero] at h1 hN hL
    generalize (prog l).map (·.n) = P at *
    generalize l.map Cls.v = X at *
    rw [ev_fn' tab prim (f := 3) rfl _ _ rfl]
    simp [hC, ha, h1, hN, hL]
theorem ev_lawDispatch' (l : List Cls) (hw : ∀ c ∈ l, c.Wf) (hl : l.length ≤ maxLen) : ∃ O A, ev tab prim 3 [.list 7 (l.map Cls.v) false] [[], []] = some (.bool true, [O, A]) := ev_lawDispatch l hw hl
end Go.Proofs.YtpajgenngpjbaaaGreat.Ev

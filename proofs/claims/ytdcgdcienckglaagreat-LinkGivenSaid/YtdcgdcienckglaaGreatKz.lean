import Derived.Test.YtdcgdcienckglaaGreatKv
import Derived.Test.YtdcgdcienckglaaGreatGh
/- Subs (walk). -/
namespace Go.Proofs.YtdcgdcienckglaaGreat.Ev
open Go

def subP (S : List Cls) (nm s : Nm) : Bool := (chain S s).contains nm || (sortT (ifcs S s)).contains nm
def subsP (S : List Cls) (nm : Nm) : List Nm := (S.map (·.n)).filter (subP S nm)
def sbSt (S : List Cls) (k : Nat) (nm : Nm) (acc : List Nm) (M : Mem) (i : Nat) : St :=
  { env := [(0, .ptr 0 k 0), (1, .str nm), (4, .list 1 (acc.map V.str) true), (8, .list 1 ((S.map (·.n)).map V.str) true), (9, .int .i64 S.length), (10, .int .i64 i)], mem := M }
theorem sb_loop {k t q : Nat} {S : List Cls} (hlim : Lim S) (nm : Nm) (F : Mem) : ∀ (m i : Nat) (acc : List Nm) (O A : Boxes), i + m = S.length → acc.length ≤ i → Num O → Num A → Held (mm ([] :: F) O A) k t q S →
    ∃ x y, Num (O ++ x) ∧ Num (A ++ y) ∧ cv tab prim (.loop L28_0) (sbSt S k nm acc (mm ([] :: F) O A) i) =
      some (.exit 0, { env := [(4, .list 1 ((acc ++ ((S.map (·.n)).drop i).filter (subP S nm)).map V.str) true)], mem := mm ([] :: F) (O ++ x) (A ++ y) }) := by
  intro m
  induction m with
  | zero =>
    intro i acc O A hi ha hO hA hH
    have h1 : ¬ (i : Int) < (S.length : Int) := by omega
    refine ⟨[], [], by simpa using hO, by simpa using hA, ?_⟩
    rw [cv_loop', List.drop_eq_nil_of_le (by rw [List.length_map]; omega)]
    unfold sbSt
    simp [L28_0, h1]
  | succ m ih =>
    intro i acc O A hi ha hO hA hH
    have hfew := hH.few
    have hlt : i < S.length := by omega
    have h1 : (i : Int) < (S.length : Int) := by omega
    have hix : idxOk i S.length = true := by simp [idxOk]; omega
    have w1 : IntKind.i64.wrap ((i : Int) + 1) = ((i + 1 : Nat) : Int) := by rw [wrap_small] <;> omega
    have hd : (S.map (·.n)).drop i = S[i].n :: (S.map (·.n)).drop (i + 1) := by
      rw [List.drop_eq_getElem_cons (by rw [List.length_map]; omega), List.getElem_map]
    have hch := ev_chain hH S[i].n
    have hc1 := ev_SContains (chain S S[i].n) nm (by have := chain_len S S[i].n; unfold maxLen; omega) false
    have hgn : S[i]? = some S[i] := by simp [hlt]
    have b1 : acc.length + 1 ≤ 140737488355328 := by omega
    have b2 : (acc.length + 1) * 16 ≤ 140737488355328 := by omega
    rw [hd, List.filter_cons]
    cases h2 : (chain S S[i].n).contains nm with
    | true =>
      have hp : subP S nm S[i].n = true := by unfold subP; rw [h2]; rfl
      rw [h2] at hc1
      obtain ⟨x2, y2, hO2, hA2, ih1⟩ := ih (i + 1) (acc ++ [S[i].n]) O A (by omega) (by simp; omega) hO hA hH
      refine ⟨x2, y2, hO2, hA2, ?_⟩
      rw [cv_loop', hp, if_pos rfl]
      rw [List.append_assoc, List.singleton_append] at ih1
      rw [← ih1]
      generalize S[i] = c at *
      unfold sbSt
      simp [L28_0, h1, hix, hgn, hch, hc1, w1, b1, b2]
    | false =>
      rw [h2] at hc1
      obtain ⟨v, hI⟩ := ev_Interfaces hO hA hH hlim S[i].n
      have hc2 := ev_SContains (sortT (ifcs S S[i].n)) nm (by rw [(sortT_perm _).length_eq]; have := ifcs_len hlim S[i].n; unfold maxLen; omega) false
      have hO1 : Num (O ++ [(O.length, [v])]) := hO.add _
      have hA1 : Num (A ++ [(A.length, [.mref O.length])]) := hA.add _
      have hH1 : Held (mm ([] :: F) (O ++ [(O.length, [v])]) (A ++ [(A.length, [.mref O.length])])) k t q S := hH.more _ _
      cases h3 : (sortT (ifcs S S[i].n)).contains nm with
      | true =>
        have hp : subP S nm S[i].n = true := by unfold subP; rw [h2, h3]; rfl
        rw [h3] at hc2
        obtain ⟨x2, y2, hO2, hA2, ih1⟩ := ih (i + 1) (acc ++ [S[i].n]) _ _ (by omega) (by simp; omega) hO1 hA1 hH1
        refine ⟨_, _, by rw [← List.append_assoc]; exact hO2, by rw [← List.append_assoc]; exact hA2, ?_⟩
        rw [cv_loop', hp, if_pos rfl, ← List.append_assoc, ← List.append_assoc]
        rw [List.append_assoc acc, List.singleton_append] at ih1
        rw [← ih1]
        generalize sortT (ifcs S S[i].n) = T at *
        generalize S[i] = c at *
        unfold sbSt
        simp [L28_0, h1, hix, hgn, hch, hc1, hI, hc2, w1, b1, b2]
      | false =>
        have hp : subP S nm S[i].n = false := by unfold subP; rw [h2, h3]; rfl
        rw [h3] at hc2
        obtain ⟨x2, y2, hO2, hA2, ih1⟩ := ih (i + 1) acc _ _ (by omega) (by omega) hO1 hA1 hH1
        refine ⟨_, _, by rw [← List.append_assoc]; exact hO2, by rw [← List.append_assoc]; exact hA2, ?_⟩
        rw [cv_loop', hp, if_neg (by decide), ← List.append_assoc, ← List.append_assoc]
        rw [← ih1]
        generalize sortT (ifcs S S[i].n) = T at *
        generalize S[i] = c at *
        unfold sbSt
        simp [L28_0, h1, hix, hgn, hch, hc1, hI, hc2, w1, b1, b2]
theorem ev_Subs {k t q : Nat} {S : List Cls} {F : Mem} {O A : Boxes} (hO : Num O) (hA : Num A) (h : Held (mm F O A) k t q S) (hlim : Lim S) (nm : Nm) : ∃ x y, Num (O ++ x) ∧ Num (A ++ y) ∧
    ev tab prim 28 [.ptr 0 k 0, .str nm] (mm F O A) = some (.list 1 ((subsP S nm).map V.str) true, mm F (O ++ x) (A ++ y)) := by
  have hH : Held (mm ([] :: F) O A) k t q S := h.any
  obtain ⟨x, y, hO1, hA1, hL⟩ := sb_loop hlim nm F S.length 0 [] O A (by omega) (by simp) hO hA hH
  have hN := ev_Names hH
  refine ⟨x, y, hO1, hA1, ?_⟩
  have c0 : ∀ O A, mm ([] :: F) O A = ([] : Boxes) :: mm F O A := fun _ _ => rfl
  unfold sbSt at hL
  rw [List.drop_zero, List.nil_append] at hL
  simp only [c0, Int.cast_ofNat_Int, List.map_nil] at hL hN
  unfold subsP
  generalize (S.map (·.n)).filter (subP S nm) = R at *
  have hl : (S.map (·.n)).length = S.length := List.length_map _
  rw [ev_fn' tab prim (f := 28) rfl _ _ rfl]
  simp at hL hN
  simp [hN, hL, hl]
end Go.Proofs.YtdcgdcienckglaaGreat.Ev

/- alike.Classes, Turned, Texts (walks). -/
namespace Go.Proofs.YtdcgdcienckglaaGreat.Ev
open Go

/-- How much there is of classes, until it is too much. -/
def clsSum : Int → List Cls → Int
  | n, [] => n
  | n, c :: r => if n ≤ 12000 then clsSum (sumF n [c.size]) r else n
theorem Cls.size_nn (c : Cls) : 0 ≤ c.size := c.size3_pos _
theorem clsSum_le : ∀ (l : List Cls) (n : Int), 0 ≤ n → clsSum n l ≤ 12000 → n + (l.map Cls.size).sum ≤ 12000
  | [], n, _, h => by simpa [clsSum] using h
  | c :: r, n, h0, h => by
    unfold clsSum at h
    by_cases h1 : n ≤ 12000
    · rw [if_pos h1] at h
      have hs := sumF_held [c.size] n h0 (by simp [c.size_nn])
      have := clsSum_le r _ hs.1 h
      have hp := sum_map_nonneg Cls.size Cls.size_nn r
      have he := hs.2 (by omega)
      simp only [List.sum_cons, List.sum_nil, Int.add_zero] at he
      rw [List.map_cons, List.sum_cons]
      omega
    · rw [if_neg h1] at h; omega
theorem im_le (c : Cls) (h : c.size ≤ 12000) : (c.im.length : Int) ≤ c.size := by
  have e := c.size_eq h
  have p1 := sum_map_nonneg (fun s : List UInt8 => 1 + (s.length : Int)) (fun a => by omega) c.im
  have p2 := sum_map_nonneg (fun f : Fld => 1 + ((f.n.length : Int) + f.d.length)) (fun a => by omega) c.fs
  have p3 := sum_map_nonneg Mth.size Mth.size_pos c.ms
  have l1 := len_le_sum (fun s : List UInt8 => 1 + (s.length : Int)) 1 (by omega) c.im (fun a _ => by omega)
  omega
theorem good_size {l : List Cls} (hw : ∀ c ∈ l, c.Wf) (h : clsSum 0 l ≤ 12000) : GoodL l := by
  have h1 := clsSum_le l 0 (by omega) h
  have h2 : ∀ c ∈ l, c.size ≤ 12000 := fun c hc => by
    have := le_sum_map Cls.size Cls.size_nn l c hc
    omega
  refine ⟨fun c hc => ⟨hw c hc, c.small (h2 c hc)⟩, ?_⟩
  have := flatMap_len' (fun c : Cls => c.im) Cls.size l fun c hc => im_le c (h2 c hc)
  omega
def acSt (l : List Cls) (n : Int) (i : Nat) : St := { env := [(0, .list 7 (l.map Cls.v) false), (1, .int .i64 12000), (5, .int .i64 n), (6, .int .i64 i)], mem := [[], [], []] }
theorem ac_loop (l : List Cls) (hw : ∀ c ∈ l, c.Wf) (hl : l.length ≤ maxLen) : ∀ (m i : Nat) (n : Int), 0 ≤ n → i + m = l.length → cv tab prim (.loop L20_0) (acSt l n i) = some (.exit 0, { env := [(1, .int .i64 12000), (5, .int .i64 (clsSum n (l.drop i)))], mem := [[], [], []] }) := by
  intro m
  induction m with
  | zero =>
    intro i n h0 hi
    have h1 : ¬ (i : Int) < (l.length : Int) := by omega
    rw [cv_loop', List.drop_eq_nil_of_le (by omega)]
    unfold acSt
    simp [L20_0, h1, clsSum]
  | succ m ih =>
    intro i n h0 hi
    have hlt : i < l.length := by omega
    have h1 : (i : Int) < (l.length : Int) := by omega
    have hix : idxOk i l.length = true := by simp [idxOk]; omega
    have w1 := wrap_succ hlt hl
    rw [cv_loop', List.drop_eq_getElem_cons hlt, clsSum]
    by_cases h2 : n ≤ 12000
    · have hc := ev_ClassSize l[i] (hw _ (List.getElem_mem hlt))
      have hs := ev_Sum n [l[i].size] (by simp) h0 (by simp [Cls.size_nn]) false
      have hp : 0 ≤ sumF n [l[i].size] := sumF_pos h0 (by simp [Cls.size_nn])
      have ih1 := ih (i + 1) (sumF n [l[i].size]) hp (by omega)
      rw [if_pos h2, ← ih1]
      generalize hgx : l[i] = c at *
      generalize sumF n [c.size] = z at *
      generalize c.size = y at *
      unfold acSt
      unfold Cls.v Cls.cells at hc
      simp at hs
      simp [L20_0, h1, h2, hix, hlt, hgx, w1, hc, hs, Cls.v, Cls.cells]
    · rw [if_neg h2]
      unfold acSt
      simp [L20_0, h1, h2]
theorem ev_alikeClasses (l : List Cls) (hw : ∀ c ∈ l, c.Wf) (hl : l.length ≤ maxLen) (o : Bool) : ev tab prim 20 [.list 7 (l.map Cls.v) o, .int .i64 12000] [[], []] = some (.bool (decide (clsSum 0 l ≤ 12000)), [[], []]) := by
  have h := ac_loop l hw hl l.length 0 0 (by omega) (by omega)
  unfold acSt at h
  rw [List.drop_zero] at h
  simp only [Int.cast_ofNat_Int] at h
  generalize l.map Cls.v = X at *
  rw [ev_fn' tab prim (f := 20) rfl _ _ rfl]
  simp [h]

theorem tx_loop (xs : List Nm) (hl : xs.length ≤ maxLen) :
    cv tab prim (.loop L22_0) { env := [(0, .list 1 (xs.map V.str) false), (1, .list 1 (xs.map V.str) false), (5, .int .i64 0)], mem := [[], [], []] } = some (.exit 0, { env := [], mem := [[], [], []] }) := by
  refine loop_all (fun i => { env := [(0, .list 1 (xs.map V.str) false), (1, .list 1 (xs.map V.str) false), (5, .int .i64 i)], mem := [[], [], []] }) xs.length _ (fun i hi => ?_) ?_ (by simp)
  · have a1 : (i : Int) < (xs.length : Int) := by omega
    have hw := wrap_succ hi hl
    have hx : (xs.map V.str)[i]? = some (.str xs[i]) := by simp [hi]
    simp [L22_0, a1, hw, idxOk, hx]
  · simp [L22_0]
/-- Texts that are the same. -/
theorem ev_sameTexts (xs : List Nm) (hl : xs.length ≤ maxLen) (o1 o2 : Bool) : ev tab prim 22 [.list 1 (xs.map V.str) o1, .list 1 (xs.map V.str) o2] [[], []] = some (.bool true, [[], []]) := by
  have h := tx_loop xs hl
  rw [ev_fn' tab prim (f := 22) rfl _ _ rfl]
  simp [h]

/-! ### Turned -/
def turnAt (l : List Cls) (k : Int) (i : Nat) : Nat := (round ((i : Int) + round k l.length) l.length).toNat
def turned (l : List Cls) (k : Int) : List Cls := (List.range l.length).map fun i => l.getD (turnAt l k i) Cls.zero
def tuSt (l : List Cls) (k : Int) (i : Nat) : St := { env := [(0, .list 7 (l.map Cls.v) false), (1, .int .i64 k), (5, .list 7 (((turned l k).take i).map Cls.v) true), (6, .int .i64 i)], mem := [[], [], []] }
theorem turned_len (l : List Cls) (k : Int) : (turned l k).length = l.length := by simp [turned]
theorem tu_loop (l : List Cls) (k : Int) (hl : l.length ≤ 100000) : cv tab prim (.loop L25_0) (tuSt l k 0) = some (.exit 0, { env := [(5, .list 7 ((turned l k).map Cls.v) true)], mem := [[], [], []] }) := by
  refine loop_all (tuSt l k) l.length _ (fun i hi => ?_) ?_ (by simp)
  · have a1 : (i : Int) < (l.length : Int) := by omega
    have w1 : IntKind.i64.wrap ((i : Int) + 1) = ((i + 1 : Nat) : Int) := by rw [wrap_small] <;> omega
    have r1 := ev_Round k l.length (by omega) (by omega)
    have i1 := round_in k l.length (by omega)
    have w2 : IntKind.i64.wrap ((i : Int) + round k l.length) = (i : Int) + round k l.length := by rw [wrap_small] <;> omega
    have r2 := ev_Round ((i : Int) + round k l.length) l.length (by omega) (by omega)
    have i2 := round_in ((i : Int) + round k l.length) l.length (by omega)
    have ht : (turnAt l k i : Int) = round ((i : Int) + round k l.length) l.length := by unfold turnAt; omega
    have htl : turnAt l k i < l.length := by omega
    have hix : idxOk (turnAt l k i : Int) l.length = true := by simp [idxOk]; omega
    have hs : ((turned l k).take (i + 1)).map Cls.v = ((turned l k).take i).map Cls.v ++ [l[turnAt l k i].v] := by
      rw [List.take_succ_eq_append_getElem (by rw [turned_len]; exact hi), List.map_append]
      congr 1
      simp [turned, List.getD_eq_getElem?_getD, List.getElem?_eq_getElem htl]
    have hm : (((turned l k).take i).map Cls.v).length = i := by rw [List.length_map, List.length_take, turned_len]; omega
    have b1 : i + 1 ≤ 140737488355328 := by omega
    have b2 : (i + 1) * 112 ≤ 140737488355328 := by omega
    unfold tuSt
    rw [hs]
    rw [← ht] at r2
    generalize ((turned l k).take i).map Cls.v = X at *
    generalize turnAt l k i = j at *
    generalize hgx : l[j] = c at *
    simp [L25_0, a1, w1, r1, w2, r2, hix, htl, hgx, hm, b1, b2, Cls.v, Cls.cells]
  · unfold tuSt
    rw [List.take_of_length_le (by rw [turned_len]; exact Nat.le_refl _)]
    simp [L25_0]
theorem ev_Turned (l : List Cls) (k : Int) (hl : l.length ≤ 100000) (o : Bool) : ev tab prim 25 [.list 7 (l.map Cls.v) o, .int .i64 k] [[], []] = some (.list 7 ((turned l k).map Cls.v) true, [[], []]) := by
  have h := tu_loop l k hl
  unfold tuSt at h
  rw [List.take_zero, List.map_nil] at h
  simp only [Int.cast_ofNat_Int] at h
  generalize l.map Cls.v = X at *
  generalize (turned l k).map Cls.v = Y at *
  rw [ev_fn' tab prim (f := 25) rfl _ _ rfl]
  simp [h]
end Go.Proofs.YtdcgdcienckglaaGreat.Ev

/- The law LinkOrder. -/
namespace Go.Proofs.YtdcgdcienckglaaGreat.Ev
open Go

/-! ### The order of a program's classes is one -/
theorem sorted_unique : ∀ {l m : List Cls}, l.Perm m → l.Pairwise (fun a b => a.n ≤ b.n) → m.Pairwise (fun a b => a.n ≤ b.n) → (l.map (·.n)).Nodup → l = m
  | [], m, hp, _, _, _ => (List.Perm.nil_eq hp)
  | a :: r, [], hp, _, _, _ => by simpa using hp.length_eq
  | a :: r, b :: s, hp, hl, hm, hn => by
    rw [List.map_cons, List.nodup_cons] at hn
    rw [List.pairwise_cons] at hl hm
    have hab : a = b := by
      have h1 : a ∈ b :: s := hp.mem_iff.1 (by simp)
      have h2 : b ∈ a :: r := hp.mem_iff.2 (by simp)
      rcases List.mem_cons.1 h1 with h1 | h1
      · exact h1
      rcases List.mem_cons.1 h2 with h2 | h2
      · exact h2.symm
      have h3 := hm.1 a h1
      have h4 := hl.1 b h2
      have h5 : a.n = b.n := List.le_antisymm h4 h3
      exact absurd (List.mem_map.2 ⟨b, h2, h5.symm⟩) hn.1
    subst hab
    rw [sorted_unique (List.Perm.cons_inv hp) hl.2 hm.2 hn.2]
theorem sortC_pw (l : List Cls) : (sortC l).Pairwise (fun a b => a.n ≤ b.n) := by
  have h := List.pairwise_mergeSort (le := fun a b : Cls => decide (a.n ≤ b.n)) (fun a b c h1 h2 => decide_eq_true (List.le_trans (of_decide_eq_true h1) (of_decide_eq_true h2))) (fun a b => by simpa using List.le_total a.n b.n) l
  exact h.imp fun h => of_decide_eq_true h
/-- In whatever order classes come, the program is the same. -/
theorem prog_perm {l m : List Cls} (hp : l.Perm m) (hd : dblG l = none) : prog l = prog m :=
  sorted_unique ((sortC_perm _).trans ((hp.append_left builtins).trans (sortC_perm _).symm)) (sortC_pw _) (sortC_pw _) (prog_nodup hd)

theorem turned_eq (l : List Cls) (k : Int) : turned l k = l.drop (round k l.length).toNat ++ l.take (round k l.length).toNat := by
  by_cases h0 : l.length = 0
  · have : l = [] := List.eq_nil_of_length_eq_zero h0
    subst this; simp [turned]
  have hr := round_in k l.length (by omega)
  obtain ⟨r, hrr⟩ : ∃ r : Nat, round k l.length = r := ⟨(round k l.length).toNat, by omega⟩
  have hlt : r < l.length := by omega
  rw [hrr, Int.toNat_natCast]
  refine List.ext_getElem (by rw [turned_len, List.length_append, List.length_drop, List.length_take]; omega) fun i h1 h2 => ?_
  rw [turned_len] at h1
  have hta : turnAt l k i = if i + r < l.length then i + r else i + r - l.length := by
    unfold turnAt
    rw [hrr]
    have h3 : ((i : Int) + (r : Int)).tmod (l.length : Int) = ((i + r) % l.length : Nat) := by
      rw [← Int.natCast_add, ← Int.ofNat_tmod]
    unfold round
    rw [h3, if_neg (by omega), Int.toNat_natCast]
    split
    · exact Nat.mod_eq_of_lt (by assumption)
    · rw [Nat.mod_eq_sub_mod (by omega), Nat.mod_eq_of_lt (by omega)]
  have hg : (turned l k)[i] = l.getD (turnAt l k i) Cls.zero := by simp [turned]
  rw [hg, hta, List.getD_eq_getElem?_getD]
  by_cases h4 : i + r < l.length
  · rw [if_pos h4, List.getElem?_eq_getElem h4, List.getElem_append_left (by rw [List.length_drop]; omega), List.getElem_drop]
    simp [Nat.add_comm]
  · rw [if_neg h4, List.getElem?_eq_getElem (by omega), List.getElem_append_right (by rw [List.length_drop]; omega), List.getElem_take]
    simp only [List.length_drop, Option.getD_some]
    congr 1
    omega
theorem turned_perm (l : List Cls) (k : Int) : (turned l k).Perm l := by
  rw [turned_eq]
  exact List.perm_append_comm.trans (by rw [List.take_append_drop])
end Go.Proofs.YtdcgdcienckglaaGreat.Ev

/- The law LinkOrder (walk). -/
namespace Go.Proofs.YtdcgdcienckglaaGreat.Ev
open Go

theorem builtins_good : ∀ c ∈ builtins, GoodC c := fun c hc => good_of (List.all_eq_true.1 (show builtins.all smallB = true by kernel_rfl) c hc)
theorem prog_wf {l : List Cls} (h : GoodL l) : ∀ c ∈ prog l, c.Wf := fun c hc => (prog_mem.1 hc).elim (fun h1 => (builtins_good c h1).wf) fun h1 => (h.good c h1).wf
theorem zero_wf : Cls.zero.Wf := (good_of (c := Cls.zero) (by kernel_rfl)).wf
theorem look_wf {S : List Cls} (h : ∀ c ∈ S, c.Wf) (nm : Nm) : ((look S nm).getD Cls.zero).Wf := by
  cases hk : look S nm with
  | none => exact zero_wf
  | some c => exact h c (look_mem hk).1
def orSt (S : List Cls) (k k' : Nat) (M : Mem) (i : Nat) : St := { env := [(5, .ptr 0 k 0), (8, .ptr 0 k' 0), (11, .list 1 ((S.map (·.n)).map V.str) false), (12, .int .i64 i)], mem := M }
theorem subs_len (S : List Cls) (nm : Nm) : (subsP S nm).length ≤ S.length := by
  have := List.length_filter_le (subP S nm) (S.map (·.n))
  rw [List.length_map] at this
  exact this
theorem or_loop {k t q k' t' q' : Nat} {S : List Cls} (hlim : Lim S) (hw : ∀ c ∈ S, c.Wf) : ∀ (m i : Nat) (O A : Boxes), i + m = S.length → Num O → Num A → Held (mm [[]] O A) k t q S → Held (mm [[]] O A) k' t' q' S →
    ∃ x y, cv tab prim (.loop L7_0) (orSt S k k' (mm [[]] O A) i) = some (.exit 0, { env := [], mem := mm [[]] (O ++ x) (A ++ y) }) := by
  intro m
  induction m with
  | zero =>
    intro i O A hi hO hA hH hH'
    have h1 : ¬ (i : Int) < (S.length : Int) := by omega
    refine ⟨[], [], ?_⟩
    rw [cv_loop']
    unfold orSt
    simp [L7_0, h1]
  | succ m ih =>
    intro i O A hi hO hA hH hH'
    have hfew := hH.few
    have hlt : i < S.length := by omega
    have h1 : (i : Int) < (S.length : Int) := by omega
    have hix : idxOk i S.length = true := by simp [idxOk]; omega
    have w1 : IntKind.i64.wrap ((i : Int) + 1) = ((i + 1 : Nat) : Int) := by rw [wrap_small] <;> omega
    have hgn : S[i]? = some S[i] := by simp [hlt]
    generalize hnm : S[i].n = nm at *
    have c1 := ev_Class hH hlim.own nm
    have c2 := ev_Class hH' hlim.own nm
    have cs := ev_RefSame ((look S nm).getD Cls.zero) ((look S nm).getD Cls.zero) (look_wf hw nm)
    rw [Cls.same_refl] at cs
    have s1 := ev_Supers hH nm
    have s2 := ev_Supers hH' nm
    have ss := ev_sameTexts (chain S nm) (by have := chain_len S nm; unfold maxLen; omega) false false
    obtain ⟨v1, i1⟩ := ev_Interfaces hO hA hH hlim nm
    have hO1 : Num (O ++ [(O.length, [v1])]) := hO.add _
    have hA1 : Num (A ++ [(A.length, [.mref O.length])]) := hA.add _
    have hH1 : Held (mm [[]] (O ++ [(O.length, [v1])]) (A ++ [(A.length, [.mref O.length])])) k t q S := hH.more _ _
    have hH1' : Held (mm [[]] (O ++ [(O.length, [v1])]) (A ++ [(A.length, [.mref O.length])])) k' t' q' S := hH'.more _ _
    generalize hOe1 : O ++ [(O.length, [v1])] = O1 at *
    generalize hAe1 : A ++ [(A.length, [V.mref O.length])] = A1 at *
    obtain ⟨v2, i2⟩ := ev_Interfaces hO1 hA1 hH1' hlim nm
    have hO2 : Num (O1 ++ [(O1.length, [v2])]) := hO1.add _
    have hA2 : Num (A1 ++ [(A1.length, [.mref O1.length])]) := hA1.add _
    have hH2 : Held (mm [[]] (O1 ++ [(O1.length, [v2])]) (A1 ++ [(A1.length, [.mref O1.length])])) k t q S := hH1.more _ _
    have hH2' : Held (mm [[]] (O1 ++ [(O1.length, [v2])]) (A1 ++ [(A1.length, [.mref O1.length])])) k' t' q' S := hH1'.more _ _
    generalize hOe2 : O1 ++ [(O1.length, [v2])] = O2 at *
    generalize hAe2 : A1 ++ [(A1.length, [V.mref O1.length])] = A2 at *
    have is := ev_sameTexts (sortT (ifcs S nm)) (by rw [(sortT_perm _).length_eq]; have := ifcs_len hlim nm; unfold maxLen; omega) false false
    obtain ⟨x3, y3, hO3, hA3, u1⟩ := ev_Subs hO2 hA2 hH2 hlim nm
    have hH3 := hH2.more (F' := [[]]) x3 y3
    have hH3' := hH2'.more (F' := [[]]) x3 y3
    obtain ⟨x4, y4, hO4, hA4, u2⟩ := ev_Subs hO3 hA3 hH3' hlim nm
    have hH4 := hH3.more (F' := [[]]) x4 y4
    have hH4' := hH3'.more (F' := [[]]) x4 y4
    have us := ev_sameTexts (subsP S nm) (by have := subs_len S nm; unfold maxLen; omega) false false
    obtain ⟨x5, y5, ih1⟩ := ih (i + 1) (O2 ++ x3 ++ x4) (A2 ++ y3 ++ y4) (by omega) hO4 hA4 hH4 hH4'
    refine ⟨[(O.length, [v1])] ++ ([(O1.length, [v2])] ++ (x3 ++ (x4 ++ x5))), [(A.length, [.mref O.length])] ++ ([(A1.length, [.mref O1.length])] ++ (y3 ++ (y4 ++ y5))), ?_⟩
    have eO : O ++ ([(O.length, [v1])] ++ ([(O1.length, [v2])] ++ (x3 ++ (x4 ++ x5)))) = O2 ++ x3 ++ x4 ++ x5 := by rw [← hOe2, ← hOe1]; simp [List.append_assoc]
    have eA : A ++ ([(A.length, [V.mref O.length])] ++ ([(A1.length, [V.mref O1.length])] ++ (y3 ++ (y4 ++ y5)))) = A2 ++ y3 ++ y4 ++ y5 := by rw [← hAe2, ← hAe1]; simp [List.append_assoc]
    rw [eO, eA, cv_loop', ← ih1]
    clear hH hH' hH1 hH1' hH2 hH2' hH3 hH3' hH4 hH4' hO hA hO1 hA1 hO2 hA2 hO3 hA3 hO4 hA4 ih ih1 eO eA hOe1 hAe1 hOe2 hAe2
    unfold findV at c1 c2
    generalize sortT (ifcs S nm) = T at *
    generalize chain S nm = C at *
    generalize subsP S nm = U at *
    generalize (look S nm).isSome = b at *
    generalize (look S nm).getD Cls.zero = d at *
    generalize hgc : S[i] = c at *
    unfold orSt
    unfold Cls.v Cls.cells at c1 c2 cs
    simp [L7_0, h1, hix, hgn, hgc, hnm, c1, c2, cs, s1, s2, ss, i1, i2, is, u1, u2, us, w1]

theorem size_one (c : Cls) (h : c.size ≤ 12000) : 1 ≤ c.size := by
  have e := c.size_eq h
  have p1 := sum_map_nonneg (fun s : List UInt8 => 1 + (s.length : Int)) (fun a => by omega) c.im
  have p2 := sum_map_nonneg (fun f : Fld => 1 + ((f.n.length : Int) + f.d.length)) (fun a => by omega) c.fs
  have p3 := sum_map_nonneg Mth.size Mth.size_pos c.ms
  omega
theorem clsSum_len {l : List Cls} (h : clsSum 0 l ≤ 12000) : l.length ≤ 12000 := by
  have h1 := clsSum_le l 0 (by omega) h
  have := len_le_sum Cls.size 1 (by omega) l fun c hc => by
    have := le_sum_map Cls.size Cls.size_nn l c hc
    have := size_one c (by omega)
    omega
  omega
theorem errG_code : ∀ {l : List Cls} {e : Int} {n : Nm}, errG l = some (e, n) → e ≠ 0
  | [], _, _, h => by cases h
  | c :: r, e, n, h => by
    unfold errG at h
    split at h
    · exact errG_code h
    · cases h; assumption
theorem classesE_code {l : List Cls} {e : Int} {n : Nm} (h : classesE l = some (e, n)) : e ≠ 0 := by
  unfold classesE at h
  split at h
  · cases h; decide
  · split at h
    · rename_i p he; cases h; exact errG_code he
    · split at h
      · cases h; decide
      · cases hr : rulesE ((rulesR (prog l)).map (·.2)) l with
        | none => rw [hr] at h; cases h
        | some n => rw [hr] at h; cases h; decide
theorem GoodL.perm {l m : List Cls} (h : GoodL l) (hp : m.Perm l) : GoodL m := ⟨fun c hc => h.good c (hp.mem_iff.1 hc), by rw [(hp.flatMap_right _).length_eq]; exact h.un⟩
theorem names_len (S : List Cls) : (S.map (·.n)).length = S.length := List.length_map _
set_option maxHeartbeats 4000000 in
theorem ev_lawOrder (l : List Cls) (hw : ∀ c ∈ l, c.Wf) (hl : l.length ≤ maxLen) (k : Int) (o : Bool) : ∃ O A, ev tab prim 7 [.list 7 (l.map Cls.v) o, .int .i64 k] [[], []] = some (.bool true, [O, A]) := by
  obtain ⟨aO, aA, ha⟩ := ev_linkAwake
  have hC := ev_alikeClasses l hw hl false
  by_cases h0 : clsSum 0 l ≤ 12000
  case neg =>
    refine ⟨[], [], ?_⟩
    rw [decide_eq_false h0] at hC
    generalize l.map Cls.v = X at *
    rw [ev_fn' tab prim (f := 7) rfl _ _ rfl]
    simp [hC, ha]
  rw [decide_eq_true h0] at hC
  have hlen := clsSum_len h0
  have hgl := good_size hw h0
  by_cases hne : l = []
  · subst hne
    refine ⟨[], [], ?_⟩
    rw [List.map_nil] at hC ⊢
    rw [ev_fn' tab prim (f := 7) rfl _ _ rfl]
    simp [hC, ha]
  have hlz : (((l.map Cls.v).length : Int) == 0) = false := by
    rw [List.length_map]
    have := List.length_pos_iff.2 hne
    have h5 : ¬ (l.length : Int) = 0 := by omega
    simpa using h5
  have hT := ev_Turned l k (by omega) false
  have hgt := hgl.perm (turned_perm l k)
  obtain ⟨x, y, hO, hA, h1⟩ := ev_Classes l (fun _ => hgl) [[]] [] [] num_nil num_nil false
  simp only [List.nil_append] at hO hA h1
  obtain ⟨x2, y2, hO2, hA2, h2⟩ := ev_Classes (turned l k) (fun _ => hgt) [[]] x y hO hA false
  have hpm := turned_perm l k
  have m0 : ∀ O A, mm [[]] O A = [[], O, A] := fun _ _ => rfl
  cases he : classesE l with
  | some p =>
    obtain ⟨e, n⟩ := p
    have e0 : e ≠ 0 := classesE_code he
    have hq : ∃ e' n', classesE (turned l k) = some (e', n') := by
      cases hq : classesE (turned l k) with
      | some p => exact ⟨p.1, p.2, rfl⟩
      | none => rw [classes_perm hpm hq] at he; cases he
    obtain ⟨e', n', hq⟩ := hq
    have e0' : e' ≠ 0 := classesE_code hq
    rw [he] at h1
    rw [hq] at h2
    dsimp only at h1 h2
    rw [m0] at h1 h2
    rw [m0] at h1 h2
    refine ⟨x ++ x2, y ++ y2, ?_⟩
    generalize (turned l k).map Cls.v = Y at *
    generalize l.map Cls.v = X at *
    have b1 : (e == 0) = false := by simpa using e0
    have b2 : (e' == 0) = false := by simpa using e0'
    rw [ev_fn' tab prim (f := 7) rfl _ _ rfl]
    simp [hC, ha, hT, h1, h2, hlz, e0, e0', b1, b2]
  | none =>
    have hd : dblG l = none := dblG_none.2 (classes_none.1 he).2.2.1
    have hq := classes_perm hpm.symm he
    have hpp := prog_perm hpm.symm hd
    rw [he] at h1
    rw [hq] at h2
    obtain ⟨k1, t1, q1, hH1, h1⟩ := h1
    obtain ⟨k2, t2, q2, hH2, h2⟩ := h2
    rw [← hpp] at hH2
    have hH1 := hH1.more (F' := [[]]) x2 y2
    obtain ⟨x3, y3, hL⟩ := or_loop (prog_lim hgl) (prog_wf hgl) (prog l).length 0 (x ++ x2) (y ++ y2) (by omega) hO2 hA2 hH1 hH2
    have hN1 := ev_Names hH1
    have hN2 := ev_Names hH2
    have hNN := ev_sameTexts ((prog l).map (·.n)) (by rw [names_len, prog_len]; unfold maxLen; omega) false false
    refine ⟨x ++ x2 ++ x3, y ++ y2 ++ y3, ?_⟩
    unfold orSt at hL
    rw [m0] at h1 h2 hN1 hN2 hL
    rw [m0] at h1 h2 hL
    simp only [Int.cast_ofNat_Int] at hL
    generalize (prog l).map (·.n) = P at *
    generalize (turned l k).map Cls.v = Y at *
    generalize l.map Cls.v = X at *
    rw [ev_fn' tab prim (f := 7) rfl _ _ rfl]
    simp at h1 h2 hN1 hN2 hL hNN
    simp [hC, ha, hT, h1, h2, hlz, hN1, hN2, hNN, hL]
end Go.Proofs.YtdcgdcienckglaaGreat.Ev

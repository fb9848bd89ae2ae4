import Derived.Test.YtpajgenngpjbaaaGreatKv
import Derived.Test.YtpajgenngpjbaaaGreatGh
/- Subs (walk). -/
namespace Go.Proofs.YtpajgenngpjbaaaGreat.Ev
open Go

def subP (S : List Cls) (nm s : Nm) : Bool := (chain S s).contains nm || (sortT (ifcs S s)).contains nm
def subsP (S : List Cls) (nm : Nm) : List Nm := (S.map (·.n)).filter (subP S nm)
def sbSt (S : List Cls) (k : Nat) (nm : Nm) (acc : List Nm) (M : Mem) (i : Nat) : St :=
  { env := [(0, .ptr 0 k 0), (1, .str nm), (4, .list 1 (acc.map V.str) true), (8, .list 1 ((S.map (·.n)).map V.str) true), (9, .int .i64 S.length), (10, .int .i64 i)], mem := M }
end Go.Proofs.YtpajgenngpjbaaaGreat.Ev

/- alike.Classes, Turned, Texts (walks). -/
namespace Go.Proofs.YtpajgenngpjbaaaGreat.Ev
open Go

/-- How much there is of classes, until it is too much. -/
def clsSum : Int → List Cls → Int
  | n, [] => n
  | n, c :: r => if n ≤ 12000 then clsSum (sumF n [c.size]) r else n
theorem Cls.size_nn (c : Cls) : 0 ≤ c.size := c.size3_pos _
theorem clsSum_le : ∀ (l : List Cls) (n : Int), 0 ≤ n → clsSum n l ≤ 12000 → n + (l.map Cls.size).sum ≤ 12000
  | [], n, _, h => by simpa [clsSum] using h
  | c :: r, n, h0, h => by
    unfold clsSum at h
    by_cases h1 : n ≤ 12000
    · rw [if_pos h1] at h
      have hs := sumF_held [c.size] n h0 (by simp [c.size_nn])
      have := clsSum_le r _ hs.1 h
      have hp := sum_map_nonneg Cls.size Cls.size_nn r
      have he := hs.2 (by omega)
      simp only [List.sum_cons, List.sum_nil, Int.add_zero] at he
      rw [List.map_cons, List.sum_cons]
      omega
    · rw [if_neg h1] at h; omega
theorem im_le (c : Cls) (h : c.size ≤ 12000) : (c.im.length : Int) ≤ c.size := by
  have e := c.size_eq h
  have p1 := sum_map_nonneg (fun s : List UInt8 => 1 + (s.length : Int)) (fun a => by omega) c.im
  have p2 := sum_map_nonneg (fun f : Fld => 1 + ((f.n.length : Int) + f.d.length)) (fun a => by omega) c.fs
  have p3 := sum_map_nonneg Mth.size Mth.size_pos c.ms
  have l1 := len_le_sum (fun s : List UInt8 => 1 + (s.length : Int)) 1 (by omega) c.im (fun a _ => by omega)
  omega
theorem good_size {l : List Cls} (hw : ∀ c ∈ l, c.Wf) (h : clsSum 0 l ≤ 12000) : GoodL l := by
  have h1 := clsSum_le l 0 (by omega) h
  have h2 : ∀ c ∈ l, c.size ≤ 12000 := fun c hc => by
    have := le_sum_map Cls.size Cls.size_nn l c hc
    omega
  refine ⟨fun c hc => ⟨hw c hc, c.small (h2 c hc)⟩, ?_⟩
  have := flatMap_len' (fun c : Cls => c.im) Cls.size l fun c hc => im_le c (h2 c hc)
  omega
def acSt (l : List Cls) (n : Int) (i : Nat) : St := { env := [(0, .list 7 (l.map Cls.v) false), (1, .int .i64 12000), (5, .int .i64 n), (6, .int .i64 i)], mem := [[], [], []] }
theorem ac_loop (l : List Cls) (hw : ∀ c ∈ l, c.Wf) (hl : l.length ≤ maxLen) : ∀ (m i : Nat) (n : Int), 0 ≤ n → i + m = l.length → cv tab prim (.loop L8_0) (acSt l n i) = some (.exit 0, { env := [(1, .int .i64 12000), (5, .int .i64 (clsSum n (l.drop i)))], mem := [[], [], []] }) := by
  intro m
  induction m with
  | zero =>
    intro i n h0 hi
    have h1 : ¬ (i : Int) < (l.length : Int) := by omega
    rw [cv_loop', List.drop_eq_nil_of_le (by omega)]
    unfold acSt
    simp [L8_0, h1, clsSum]
  | succ m ih =>
    intro i n h0 hi
    have hlt : i < l.length := by omega
    have h1 : (i : Int) < (l.length : Int) := by omega
    have hix : idxOk i l.length = true := by simp [idxOk]; omega
    have w1 := wrap_succ hlt hl
    rw [cv_loop', List.drop_eq_getElem_cons hlt, clsSum]
    by_cases h2 : n ≤ 12000
    · have hc := ev_ClassSize l[i] (hw _ (List.getElem_mem hlt))
      have hs := ev_Sum n [l[i].size] (by simp) h0 (by simp [Cls.size_nn]) false
      have hp : 0 ≤ sumF n [l[i].size] := sumF_pos h0 (by simp [Cls.size_nn])
      have ih1 := ih (i + 1) (sumF n [l[i].size]) hp (by omega)
      rw [if_pos h2, ← ih1]
      generalize hgx : l[i] = c at *
      generalize sumF n [c.size] = z at *
      generalize c.size = y at *
      unfold acSt
      unfold Cls.v Cls.cells at hc
      simp at hs
      simp [L8_0, h1, h2, hix, hlt, hgx, w1, hc, hs, Cls.v, Cls.cells]
    · rw [if_neg h2]
      unfold acSt
      simp [L8_0, h1, h2]
theorem ev_alikeClasses (l : List Cls) (hw : ∀ c ∈ l, c.Wf) (hl : l.length ≤ maxLen) (o : Bool) : ev tab prim 8 [.list 7 (l.map Cls.v) o, .int .i64 12000] [[], []] = some (.bool (decide (clsSum 0 l ≤ 12000)), [[], []]) := by
  have h := ac_loop l hw hl l.length 0 0 (by omega) (by omega)
  unfold acSt at h
  rw [List.drop_zero] at h
  simp only [Int.cast_ofNat_Int] at h
  generalize l.map Cls.v = X at *
  rw [ev_fn' tab prim (f := 8) rfl _ _ rfl]
  simp [h]

def turnAt (l : List Cls) (k : Int) (i : Nat) : Nat := (round ((i : Int) + round k l.length) l.length).toNat
def turned (l : List Cls) (k : Int) : List Cls := (List.range l.length).map fun i => l.getD (turnAt l k i) Cls.zero
def tuSt (l : List Cls) (k : Int) (i : Nat) : St := { env := [(0, .list 7 (l.map Cls.v) false), (1, .int .i64 k), (5, .list 7 (((turned l k).take i).map Cls.v) true), (6, .int .i64 i)], mem := [[], [], []] }
theorem turned_len (l : List Cls) (k : Int) : (turned l k).length = l.length := by simp [turned]
end Go.Proofs.YtpajgenngpjbaaaGreat.Ev

/- The law LinkOrder. -/
namespace Go.Proofs.YtpajgenngpjbaaaGreat.Ev
open Go

/-! ### The order of a program's classes is one -/
theorem sorted_unique : ∀ {l m : List Cls}, l.Perm m → l.Pairwise (fun a b => a.n ≤ b.n) → m.Pairwise (fun a b => a.n ≤ b.n) → (l.map (·.n)).Nodup → l = m
  | [], m, hp, _, _, _ => (List.Perm.nil_eq hp)
  | a :: r, [], hp, _, _, _ => by simpa using hp.length_eq
  | a :: r, b :: s, hp, hl, hm, hn => by
    rw [List.map_cons, List.nodup_cons] at hn
    rw [List.pairwise_cons] at hl hm
    have hab : a = b := by
      have h1 : a ∈ b :: s := hp.mem_iff.1 (by simp)
      have h2 : b ∈ a :: r := hp.mem_iff.2 (by simp)
      rcases List.mem_cons.1 h1 with h1 | h1
      · exact h1
      rcases List.mem_cons.1 h2 with h2 | h2
      · exact h2.symm
      have h3 := hm.1 a h1
      have h4 := hl.1 b h2
      have h5 : a.n = b.n := List.le_antisymm h4 h3
      exact absurd (List.mem_map.2 ⟨b, h2, h5.symm⟩) hn.1
    subst hab
    rw [sorted_unique (List.Perm.cons_inv hp) hl.2 hm.2 hn.2]
theorem sortC_pw (l : List Cls) : (sortC l).Pairwise (fun a b => a.n ≤ b.n) := by
  have h := List.pairwise_mergeSort (le := fun a b : Cls => decide (a.n ≤ b.n)) (fun a b c h1 h2 => decide_eq_true (List.le_trans (of_decide_eq_true h1) (of_decide_eq_true h2))) (fun a b => by simpa using List.le_total a.n b.n) l
  exact h.imp fun h => of_decide_eq_true h
/-- In whatever order classes come, the program is the same. -/
theorem prog_perm {l m : List Cls} (hp : l.Perm m) (hd : dblG l = none) : prog l = prog m :=
  sorted_unique ((sortC_perm _).trans ((hp.append_left builtins).trans (sortC_perm _).symm)) (sortC_pw _) (sortC_pw _) (prog_nodup hd)

theorem turned_eq (l : List Cls) (k : Int) : turned l k = l.drop (round k l.length).toNat ++ l.take (round k l.length).toNat := by
  by_cases h0 : l.length = 0
  · have : l = [] := List.eq_nil_of_length_eq_zero h0
    subst this; simp [turned]
  have hr := round_in k l.length (by omega)
  obtain ⟨r, hrr⟩ : ∃ r : Nat, round k l.length = r := ⟨(round k l.length).toNat, by omega⟩
  have hlt : r < l.length := by omega
  rw [hrr, Int.toNat_natCast]
  refine List.ext_getElem (by rw [turned_len, List.length_append, List.length_drop, List.length_take]; omega) fun i h1 h2 => ?_
  rw [turned_len] at h1
  have hta : turnAt l k i = if i + r < l.length then i + r else i + r - l.length := by
    unfold turnAt
    rw [hrr]
    have h3 : ((i : Int) + (r : Int)).tmod (l.length : Int) = ((i + r) % l.length : Nat) := by
      rw [← Int.natCast_add, ← Int.ofNat_tmod]
    unfold round
    rw [h3, if_neg (by omega), Int.toNat_natCast]
    split
    · exact Nat.mod_eq_of_lt (by assumption)
    · rw [Nat.mod_eq_sub_mod (by omega), Nat.mod_eq_of_lt (by omega)]
  have hg : (turned l k)[i] = l.getD (turnAt l k i) Cls.zero := by simp [turned]
  rw [hg, hta, List.getD_eq_getElem?_getD]
  by_cases h4 : i + r < l.length
  · rw [if_pos h4, List.getElem?_eq_getElem h4, List.getElem_append_left (by rw [List.length_drop]; omega), List.getElem_drop]
    simp [Nat.add_comm]
  · rw [if_neg h4, List.getElem?_eq_getElem (by omega), List.getElem_append_right (by rw [List.length_drop]; omega), List.getElem_take]
    simp only [List.length_drop, Option.getD_some]
    congr 1
    omega
theorem turned_perm (l : List Cls) (k : Int) : (turned l k).Perm l := by
  rw [turned_eq]
  exact List.perm_append_comm.trans (by rw [List.take_append_drop])
end Go.Proofs.YtpajgenngpjbaaaGreat.Ev

/- The law LinkOrder (walk). -/
namespace Go.Proofs.YtpajgenngpjbaaaGreat.Ev
open Go

theorem builtins_good : ∀ c ∈ builtins, GoodC c := fun c hc => good_of (List.all_eq_true.1 (show builtins.all smallB = true by kernel_rfl) c hc)
theorem prog_wf {l : List Cls} (h : GoodL l) : ∀ c ∈ prog l, c.Wf := fun c hc => (prog_mem.1 hc).elim (fun h1 => (builtins_good c h1).wf) fun h1 => (h.good c h1).wf
theorem zero_wf : Cls.zero.Wf := (good_of (c := Cls.zero) (by kernel_rfl)).wf
theorem look_wf {S : List Cls} (h : ∀ c ∈ S, c.Wf) (nm : Nm) : ((look S nm).getD Cls.zero).Wf := by
  cases hk : look S nm with
  | none => exact zero_wf
  | some c => exact h c (look_mem hk).1
def orSt (S : List Cls) (k k' : Nat) (M : Mem) (i : Nat) : St := { env := [(5, .ptr 0 k 0), (8, .ptr 0 k' 0), (11, .list 1 ((S.map (·.n)).map V.str) false), (12, .int .i64 i)], mem := M }
theorem subs_len (S : List Cls) (nm : Nm) : (subsP S nm).length ≤ S.length := by
  have := List.length_filter_le (subP S nm) (S.map (·.n))
  rw [List.length_map] at this
  exact this
theorem size_one (c : Cls) (h : c.size ≤ 12000) : 1 ≤ c.size := by
  have e := c.size_eq h
  have p1 := sum_map_nonneg (fun s : List UInt8 => 1 + (s.length : Int)) (fun a => by omega) c.im
  have p2 := sum_map_nonneg (fun f : Fld => 1 + ((f.n.length : Int) + f.d.length)) (fun a => by omega) c.fs
  have p3 := sum_map_nonneg Mth.size Mth.size_pos c.ms
  omega
theorem clsSum_len {l : List Cls} (h : clsSum 0 l ≤ 12000) : l.length ≤ 12000 := by
  have h1 := clsSum_le l 0 (by omega) h
  have := len_le_sum Cls.size 1 (by omega) l fun c hc => by
    have := le_sum_map Cls.size Cls.size_nn l c hc
    have := size_one c (by omega)
    omega
  omega
theorem errG_code : ∀ {l : List Cls} {e : Int} {n : Nm}, errG l = some (e, n) → e ≠ 0
  | [], _, _, h => by cases h
  | c :: r, e, n, h => by
    unfold errG at h
    split at h
    · exact errG_code h
    · cases h; assumption
theorem classesE_code {l : List Cls} {e : Int} {n : Nm} (h : classesE l = some (e, n)) : e ≠ 0 := by
  unfold classesE at h
  split at h
  · cases h; decide
  · split at h
    · rename_i p he; cases h; exact errG_code he
    · split at h
      · cases h; decide
      · cases hr : rulesE ((rulesR (prog l)).map (·.2)) l with
        | none => rw [hr] at h; cases h
        | some n => rw [hr] at h; cases h; decide
theorem GoodL.perm {l m : List Cls} (h : GoodL l) (hp : m.Perm l) : GoodL m := ⟨fun c hc => h.good c (hp.mem_iff.1 hc), by rw [(hp.flatMap_right _).length_eq]; exact h.un⟩
theorem names_len (S : List Cls) : (S.map (·.n)).length = S.length := List.length_map _
end Go.Proofs.YtpajgenngpjbaaaGreat.Ev

import Derived.Test.YtdcgdcienckglaaGreatKzs
import Derived.Test.YtdcgdcienckglaaGreatGh
/- Chains of supers: where they begin and end. -/
namespace Go.Proofs.YtdcgdcienckglaaGreat.Ev
open Go

theorem chainG_pre (S : List Cls) : ∀ (k : Nat) (out : List Nm) (nm : Nm), ∃ r, chainG S k out nm = out ++ r
  | 0, out, nm => ⟨[], by rw [chainG, List.append_nil]⟩
  | k + 1, out, nm => by
    unfold chainG
    cases look S nm with
    | none => exact ⟨[], by simp⟩
    | some c =>
      simp only
      split
      · exact ⟨[], by simp⟩
      · obtain ⟨r, hr⟩ := chainG_pre S k (out ++ [nm]) c.s
        exact ⟨nm :: r, by rw [hr]; simp⟩
theorem chain_head {S : List Cls} {n : Nm} {c : Cls} (h : look S n = some c) : ∃ r, chain S n = n :: r := by
  unfold chain chainG
  rw [h]
  simp only [List.contains_nil, Bool.false_eq_true, if_false, List.nil_append]
  obtain ⟨r, hr⟩ := chainG_pre S S.length [n] c.s
  exact ⟨r, hr⟩
/-- How it stood, as place i was filled. -/
theorem chainG_at (S : List Cls) : ∀ (k : Nat) (out : List Nm) (nm : Nm) (i : Nat) (x : Nm), out.length ≤ i → (chainG S k out nm)[i]? = some x → ∃ k', k' ≤ k ∧ chainG S k out nm = chainG S k' ((chainG S k out nm).take i) x
  | 0, out, nm, i, x, hi, hx => by
    rw [chainG, List.getElem?_eq_none hi] at hx
    cases hx
  | k + 1, out, nm, i, x, hi, hx => by
    by_cases h0 : out.length = i
    · obtain ⟨r, hr⟩ := chainG_pre S (k + 1) out nm
      have hx2 := hx
      rw [hr] at hx2
      rw [List.getElem?_append_right (by omega), h0, Nat.sub_self] at hx2
      have htk : (chainG S (k + 1) out nm).take i = out := by rw [hr, ← h0]; simp
      rw [htk]
      have hnx : nm = x := by
        unfold chainG at hx
        cases hl : look S nm with
        | none => rw [hl] at hx; simp only at hx; rw [List.getElem?_eq_none (by omega)] at hx; cases hx
        | some c =>
          rw [hl] at hx
          simp only at hx
          split at hx
          · rw [List.getElem?_eq_none (by omega)] at hx; cases hx
          · obtain ⟨r2, hr2⟩ := chainG_pre S k (out ++ [nm]) c.s
            rw [hr2, List.append_assoc, List.getElem?_append_right (by omega), h0, Nat.sub_self] at hx
            simpa using hx
      exact ⟨k + 1, Nat.le_refl _, by rw [hnx]⟩
    · cases hl : look S nm with
      | none =>
        have hu : chainG S (k + 1) out nm = out := by rw [chainG]; simp only [hl]
        rw [hu, List.getElem?_eq_none (by omega)] at hx; cases hx
      | some c =>
        by_cases hc : out.contains nm = true
        · have hu : chainG S (k + 1) out nm = out := by rw [chainG]; simp only [hl]; rw [if_pos hc]
          rw [hu, List.getElem?_eq_none (by omega)] at hx; cases hx
        · have hu : chainG S (k + 1) out nm = chainG S k (out ++ [nm]) c.s := by rw [chainG]; simp only [hl]; rw [if_neg hc]
          rw [hu] at hx ⊢
          obtain ⟨k', h1, h2⟩ := chainG_at S k (out ++ [nm]) c.s i x (by rw [List.length_append]; simp; omega) hx
          exact ⟨k', by omega, h2⟩
theorem chainG_drop (S : List Cls) : ∀ (k k' : Nat) (p q : List Nm) (nm : Nm), k ≤ k' → ∃ t, chainG S k' q nm = (chainG S k (p ++ q) nm).drop p.length ++ t
  | 0, k', p, q, nm, _ => by
    obtain ⟨r, hr⟩ := chainG_pre S k' q nm
    exact ⟨r, by rw [hr, chainG]; simp⟩
  | k + 1, k', p, q, nm, hk => by
    obtain ⟨k'', rfl⟩ : ∃ k'', k' = k'' + 1 := ⟨k' - 1, by omega⟩
    obtain ⟨r, hr⟩ := chainG_pre S (k'' + 1) q nm
    have hs : chainG S (k + 1) (p ++ q) nm = p ++ q → ∃ t, chainG S (k'' + 1) q nm = (chainG S (k + 1) (p ++ q) nm).drop p.length ++ t := fun h => ⟨r, by rw [hr, h]; simp⟩
    cases hl : look S nm with
    | none => exact hs (by unfold chainG; rw [hl])
    | some c =>
      by_cases hc : (p ++ q).contains nm = true
      · exact hs (by unfold chainG; rw [hl]; simp only; rw [if_pos hc])
      · have hq : ¬ q.contains nm = true := fun h => hc (by simp at h ⊢; exact .inr h)
        obtain ⟨t, ht⟩ := chainG_drop S k k'' p (q ++ [nm]) c.s (by omega)
        refine ⟨t, ?_⟩
        unfold chainG
        rw [hl]
        simp only
        rw [if_neg hc, if_neg hq, ht, List.append_assoc]
theorem nodup_sub_len : ∀ (l m : List Nm), l.Nodup → (∀ x ∈ l, x ∈ m) → l.length ≤ m.length
  | [], _, _, _ => Nat.zero_le _
  | a :: r, m, h1, h2 => by
    rw [List.nodup_cons] at h1
    have ha := h2 a (by simp)
    have := nodup_sub_len r (m.erase a) h1.2 fun x hx => (List.mem_erase_of_ne (show x ≠ a from fun e => h1.1 (by rw [← e]; exact hx))).2 (h2 x (by simp [hx]))
    rw [List.length_erase_of_mem ha] at this
    have := List.length_pos_of_mem ha
    rw [List.length_cons]
    omega
theorem chainG_last {S : List Cls} : ∀ (k : Nat) (out : List Nm) (nm x : Nm) (c : Cls), S.length < out.length + k → out.Nodup → (∀ y ∈ out, y ∈ S.map (·.n)) → out.getLast? = some x → look S x = some c → c.s = nm →
    ∃ x' c', (chainG S k out nm).getLast? = some x' ∧ look S x' = some c' ∧ (look S c'.s = none ∨ c'.s ∈ chainG S k out nm)
  | 0, out, nm, x, c, hk, hn, hs, _, _, _ => by
    have := nodup_sub_len out (S.map (·.n)) hn hs
    rw [List.length_map] at this
    omega
  | k + 1, out, nm, x, c, hk, hn, hs, hx, hc, hnm => by
    unfold chainG
    cases hl : look S nm with
    | none => exact ⟨x, c, hx, hc, .inl (by rw [hnm]; exact hl)⟩
    | some d =>
      simp only
      by_cases hcn : out.contains nm = true
      · rw [if_pos hcn]
        exact ⟨x, c, hx, hc, .inr (by rw [hnm]; simpa using hcn)⟩
      · rw [if_neg hcn]
        refine chainG_last k (out ++ [nm]) d.s nm d (by rw [List.length_append]; simp; omega) ?_ (fun y hy => ?_) (by simp) hl rfl
        · rw [List.nodup_append]
          refine ⟨hn, by simp, fun a ha b hb => ?_⟩
          rw [List.mem_singleton.1 hb]
          exact fun e => hcn (by rw [← e]; simpa using ha)
        · rcases List.mem_append.1 hy with hy | hy
          · exact hs y hy
          · rw [List.mem_singleton.1 hy]
            obtain ⟨h1, h2⟩ := look_mem hl
            exact List.mem_map.2 ⟨d, h1, h2⟩
/-- Without a ring, a chain ends where no super is. -/
theorem chain_end {S : List Cls} {n : Nm} {c : Cls} (h : look S n = some c) (hr : ∀ x d, look S x = some d → x ∉ chain S d.s) : ∃ x d, (chain S n).getLast? = some x ∧ look S x = some d ∧ look S d.s = none := by
  have hu : chain S n = chainG S S.length [n] c.s := by
    unfold chain
    rw [chainG]
    simp only [h, List.contains_nil, Bool.false_eq_true, if_false, List.nil_append]
  obtain ⟨x, d, h1, h2, h3⟩ := chainG_last (S := S) S.length [n] c.s n c (by simp) (by simp) (fun y hy => by rw [List.mem_singleton.1 hy]; exact List.mem_map.2 ⟨c, look_mem h⟩) (by simp) h rfl
  rw [← hu] at h1 h3
  refine ⟨x, d, h1, h2, ?_⟩
  rcases h3 with h3 | h3
  · exact h3
  · exfalso
    obtain ⟨i, hi, hix⟩ := List.getElem_of_mem h3
    have hxi : (chain S n)[i]? = some d.s := by rw [List.getElem?_eq_getElem hi, hix]
    obtain ⟨k', hk, hst⟩ := chainG_at S (S.length + 1) [] n i d.s (Nat.zero_le _) hxi
    have hst : chain S n = chainG S k' ((chain S n).take i) d.s := hst
    obtain ⟨t, ht⟩ := chainG_drop S k' (S.length + 1) ((chain S n).take i) [] d.s hk
    rw [List.append_nil, ← hst, List.length_take, Nat.min_eq_left (by omega)] at ht
    refine hr x d h2 ?_
    unfold chain at ht ⊢
    rw [ht]
    refine List.mem_append_left _ ?_
    have hl : (chain S n).drop i ≠ [] := by
      intro h0
      have := congrArg List.length h0
      rw [List.length_drop, List.length_nil] at this
      omega
    have hgl : ((chain S n).drop i).getLast? = some x := by
      rw [List.getLast?_drop, if_neg (by omega)]
      exact h1
    exact List.mem_of_getLast? hgl
end Go.Proofs.YtdcgdcienckglaaGreat.Ev

/- What stands behind LinkKin, in plain Lean. -/
namespace Go.Proofs.YtdcgdcienckglaaGreat.Ev
open Go

theorem chainG_mem {S : List Cls} : ∀ (k : Nat) (out : List Nm) (nm : Nm), (∀ y ∈ out, (look S y).isSome = true) → ∀ y ∈ chainG S k out nm, (look S y).isSome = true
  | 0, out, nm, h => by rw [chainG]; exact h
  | k + 1, out, nm, h => by
    unfold chainG
    cases hl : look S nm with
    | none => exact h
    | some c =>
      simp only
      split
      · exact h
      · refine chainG_mem k (out ++ [nm]) c.s fun y hy => ?_
        rcases List.mem_append.1 hy with hy | hy
        · exact h y hy
        · rw [List.mem_singleton.1 hy, hl]; rfl
theorem chain_mem {S : List Cls} {n y : Nm} (h : y ∈ chain S n) : (look S y).isSome = true := chainG_mem _ [] n (by simp) y h
structure Kin (S : List Cls) : Prop where
  head : ∀ n c, look S n = some c → ∃ r, chain S n = n :: r
  last : ∀ n c, look S n = some c → (chain S n).getLast? = some sObject
  faces : ∀ n a, a ∈ ifcs S n → ∃ c, look S a = some c ∧ c.i = true
theorem kin_of {l : List Cls} (h : classesE l = none) : Kin (prog l) := by
  obtain ⟨h30, herr, ⟨hnd, hnb⟩, hrules⟩ := classes_none.1 h
  have hd : dblG l = none := dblG_none.2 ⟨hnd, hnb⟩
  have hn := prog_nodup hd
  have hb : ∀ b ∈ builtins, look (prog l) b.n = some b := fun b hb => look_some hn (prog_mem.2 (.inl hb))
  have hR : ∀ c ∈ l, superP (prog l) c = true ∧ implP (prog l) c = true ∧ straightP (prog l) c = true := fun c hc => by
    unfold rulesR at hrules
    exact ⟨hrules (superP (prog l)) (by simp) c hc, hrules (implP (prog l)) (by simp) c hc, hrules (straightP (prog l)) (by simp) c hc⟩
  have hempty : look (prog l) [] = none := by
    refine look_none fun hm => ?_
    obtain ⟨c, hc, he⟩ := List.mem_map.1 hm
    rcases prog_mem.1 hc with h1 | h1
    · have : ∀ b ∈ builtins, b.n ≠ [] := by decide
      exact this c h1 he
    · have h2 := herr c h1
      unfold Cls.err at h2
      rw [he] at h2
      have h3 : nameOk [] = false := by kernel_rfl
      rw [h3] at h2
      simp at h2
  have hO : look (prog l) sObject = some (builtins.getD 0 Cls.zero) := hb (builtins.getD 0 Cls.zero) (show builtins[0]'(by decide) ∈ builtins from List.getElem_mem _)
  have hT : look (prog l) sThrowable = some (builtins.getD 1 Cls.zero) := hb (builtins.getD 1 Cls.zero) (show builtins[1]'(by decide) ∈ builtins from List.getElem_mem _)
  have hlen := prog_len l
  have c0 : chain (prog l) [] = [] := by unfold chain; rw [chainG]; simp only [hempty]
  have cO : chain (prog l) sObject = [sObject] := by
    unfold chain
    obtain ⟨k, hk⟩ : ∃ k, (prog l).length = k + 1 := ⟨11 + l.length, by omega⟩
    rw [hk, chainG]
    simp only [hO]
    rw [if_neg (by decide), chainG]
    have : (builtins.getD 0 Cls.zero).s = [] := rfl
    simp only [this, hempty]
    rfl
  have cT : chain (prog l) sThrowable = [sThrowable, sObject] := by
    unfold chain
    obtain ⟨k, hk⟩ : ∃ k, (prog l).length = k + 1 + 1 := ⟨10 + l.length, by omega⟩
    rw [hk, chainG]
    simp only [hT]
    rw [if_neg (by decide), chainG]
    have e1 : (builtins.getD 1 Cls.zero).s = sObject := rfl
    simp only [e1, hO]
    rw [if_neg (by decide), chainG]
    have : (builtins.getD 0 Cls.zero).s = [] := rfl
    simp only [this, hempty]
    rfl
  have hbs : ∀ b ∈ builtins, (b.s = [] ∧ b.n = sObject) ∨ (b.s = sObject ∧ b.n ∉ [sObject]) ∨ (b.s = sThrowable ∧ b.n ∉ [sThrowable, sObject]) := by decide
  have hring : ∀ x d, look (prog l) x = some d → x ∉ chain (prog l) d.s := fun x d hx => by
    obtain ⟨hm, rfl⟩ := look_mem hx
    rcases prog_mem.1 hm with h1 | h1
    · rcases hbs d h1 with ⟨e, _⟩ | ⟨e, e2⟩ | ⟨e, e2⟩
      · rw [e, c0]; simp
      · rw [e, cO]; exact e2
      · rw [e, cT]; exact e2
    · have := (hR d h1).2.2
      unfold straightP at this
      simp only [Bool.and_eq_true, Bool.not_eq_true', List.contains_eq_mem, decide_eq_false_iff_not] at this
      exact this.1
  refine ⟨fun n c hc => chain_head hc, fun n c hc => ?_, fun n a ha => ?_⟩
  · obtain ⟨x, d, h1, h2, h3⟩ := chain_end hc hring
    rw [h1]
    obtain ⟨hm, rfl⟩ := look_mem h2
    rcases prog_mem.1 hm with h4 | h4
    · rcases hbs d h4 with ⟨_, e⟩ | ⟨e, _⟩ | ⟨e, _⟩
      · rw [e]
      · rw [e, hO] at h3; cases h3
      · rw [e, hT] at h3; cases h3
    · have := (hR d h4).1
      unfold superP at this
      rw [h3] at this
      cases this
  · have hface : ∀ x ∈ univ (prog l), ∃ c, look (prog l) x = some c ∧ c.i = true := fun x hx => by
      obtain ⟨c, hc, hxc⟩ := List.mem_flatMap.1 hx
      rcases prog_mem.1 hc with h1 | h1
      · have : ∀ c ∈ builtins, c.im = [] := by decide
        rw [this c h1] at hxc; cases hxc
      · obtain ⟨i, hi, rfl⟩ := List.getElem_of_mem hxc
        have := (hR c h1).2.1
        unfold implP at this
        have h2 := of_decide_eq_true this i hi
        unfold implP1 at h2
        rw [List.getD_eq_getElem?_getD, List.getElem?_eq_getElem hi, Option.getD_some] at h2
        cases hk : look (prog l) c.im[i] with
        | none => rw [hk] at h2; cases h2
        | some d => rw [hk] at h2; simp only [Bool.and_eq_true, Option.getD_some] at h2; exact ⟨d, rfl, h2.2.1⟩
    have h1 := spreadG_fine (prog l) (fuelS (prog l)) n [] List.nodup_nil (by simp)
    unfold ifcs at ha
    dsimp only at ha
    split at ha
    · rename_i hi
      have hself : ∃ c, look (prog l) n = some c ∧ c.i = true := by
        cases hk : look (prog l) n with
        | none => rw [hk] at hi; cases hi
        | some c => rw [hk] at hi; exact ⟨c, rfl, hi⟩
      split at ha
      · exact hface a (h1.2 a ha)
      · rcases List.mem_append.1 ha with ha | ha
        · exact hface a (h1.2 a ha)
        · rw [List.mem_singleton.1 ha]; exact hself
    · exact hface a (h1.2 a ha)
end Go.Proofs.YtdcgdcienckglaaGreat.Ev

/- The law LinkKin (walk). -/
namespace Go.Proofs.YtdcgdcienckglaaGreat.Ev
open Go

def kiSt (S : List Cls) (k : Nat) (C : List Nm) (al : List Nm) (i : Nat) (M : Mem) (j : Nat) : St :=
  { env := [(3, .ptr 0 k 0), (6, .list 1 ((S.map (·.n)).map V.str) false), (7, .int .i64 i), (8, .list 1 (C.map V.str) false), (10, .list 1 (al.map V.str) false), (11, .int .i64 j)], mem := M }
theorem ki_inner {k t q : Nat} {S : List Cls} (hlim : Lim S) (C al : List Nm) (i : Nat) (hi : i < S.length) (hal : al.length ≤ 1000000) (h1 : ∀ a ∈ al, (subsP S a).contains S[i].n = true) (h2 : ∀ a ∈ al, (look S a).isSome = true)
    (h3 : ∀ (j : Nat) (hj : j < al.length), C.length ≤ j → ((look S al[j]).getD Cls.zero).i = true) : ∀ (m j : Nat) (O A : Boxes), j + m = al.length → Num O → Num A → Held (mm [[]] O A) k t q S →
    ∃ x y, Num (O ++ x) ∧ Num (A ++ y) ∧ cv tab prim (.loop L8_0) (kiSt S k C al i (mm [[]] O A) j) = some (.exit 2, { env := [(3, .ptr 0 k 0), (6, .list 1 ((S.map (·.n)).map V.str) false), (7, .int .i64 i)], mem := mm [[]] (O ++ x) (A ++ y) }) := by
  intro m
  induction m with
  | zero =>
    intro j O A hj hO hA hH
    have g1 : ¬ (j : Int) < (al.length : Int) := by omega
    refine ⟨[], [], by simpa using hO, by simpa using hA, ?_⟩
    rw [cv_loop']
    unfold kiSt
    simp [L8_0, g1]
  | succ m ih =>
    intro j O A hj hO hA hH
    have hfew := hH.few
    have hlt : j < al.length := by omega
    have g1 : (j : Int) < (al.length : Int) := by omega
    have hix : idxOk j al.length = true := by simp [idxOk]; omega
    have hixi : idxOk i S.length = true := by simp [idxOk]; omega
    have w1 : IntKind.i64.wrap ((j : Int) + 1) = ((j + 1 : Nat) : Int) := by rw [wrap_small] <;> omega
    have hgn : S[i]? = some S[i] := by simp [hi]
    have hga : al[j]? = some al[j] := by simp [hlt]
    have p1 := h1 al[j] (List.getElem_mem hlt)
    have p2 := h2 al[j] (List.getElem_mem hlt)
    have p3 := h3 j hlt
    generalize hnm : al[j] = a at *
    obtain ⟨x1, y1, hO1, hA1, u1⟩ := ev_Subs hO hA hH hlim a
    have hH1 := hH.more (F' := [[]]) x1 y1
    have hh := ev_Has (subsP S a) S[i].n (by have := subs_len S a; unfold maxLen; omega) false
    rw [p1] at hh
    have c1 := ev_Class hH1 hlim.own a
    unfold findV at c1
    rw [p2] at c1
    obtain ⟨x2, y2, hO2, hA2, ih1⟩ := ih (j + 1) (O ++ x1) (A ++ y1) (by omega) hO1 hA1 hH1
    refine ⟨x1 ++ x2, y1 ++ y2, by rw [← List.append_assoc]; exact hO2, by rw [← List.append_assoc]; exact hA2, ?_⟩
    rw [cv_loop', ← List.append_assoc, ← List.append_assoc, ← ih1]
    clear ih ih1 hO hA hO1 hA1 hO2 hA2 hH hH1
    generalize subsP S a = U at *
    generalize (look S a).getD Cls.zero = d at *
    generalize hgc : S[i] = c at *
    unfold kiSt
    unfold Cls.v Cls.cells at c1
    by_cases hC : C.length ≤ j
    · have p4 := p3 hC
      have g2 : (C.length : Int) ≤ (j : Int) := by omega
      simp [L8_0, g1, hix, hixi, hgn, hga, hnm, hgc, u1, hh, c1, g2, p4, w1]
    · have g2 : ¬ (C.length : Int) ≤ (j : Int) := by omega
      simp [L8_0, g1, hix, hixi, hgn, hga, hnm, hgc, u1, hh, c1, g2, w1]
end Go.Proofs.YtdcgdcienckglaaGreat.Ev

/- The law LinkKin (walk), the rest. -/
namespace Go.Proofs.YtdcgdcienckglaaGreat.Ev
open Go

def koSt (S : List Cls) (k : Nat) (M : Mem) (i : Nat) : St := { env := [(3, .ptr 0 k 0), (6, .list 1 ((S.map (·.n)).map V.str) false), (7, .int .i64 i)], mem := M }
theorem ki_outer {k t q : Nat} {S : List Cls} (hlim : Lim S) (hnd : (S.map (·.n)).Nodup) (hk : Kin S) : ∀ (m i : Nat) (O A : Boxes), i + m = S.length → Num O → Num A → Held (mm [[]] O A) k t q S →
    ∃ x y, cv tab prim (.loop L8_1) (koSt S k (mm [[]] O A) i) = some (.exit 0, { env := [], mem := mm [[]] (O ++ x) (A ++ y) }) := by
  intro m
  induction m with
  | zero =>
    intro i O A hi hO hA hH
    have g1 : ¬ (i : Int) < (S.length : Int) := by omega
    refine ⟨[], [], ?_⟩
    rw [cv_loop']
    unfold koSt
    simp [L8_1, g1]
  | succ m ih =>
    intro i O A hi hO hA hH
    have hfew := hH.few
    have hlt : i < S.length := by omega
    have g1 : (i : Int) < (S.length : Int) := by omega
    have hix : idxOk i S.length = true := by simp [idxOk]; omega
    have w1 : IntKind.i64.wrap ((i : Int) + 1) = ((i + 1 : Nat) : Int) := by rw [wrap_small] <;> omega
    have hgn : S[i]? = some S[i] := by simp [hlt]
    have hlk : look S S[i].n = some S[i] := look_some hnd (List.getElem_mem hlt)
    obtain ⟨r, hr⟩ := hk.head _ _ hlk
    have hla := hk.last _ _ hlk
    have hlc := chain_len S S[i].n
    have s1 := ev_Supers hH S[i].n
    obtain ⟨v, i1⟩ := ev_Interfaces hO hA hH hlim S[i].n
    have hO1 : Num (O ++ [(O.length, [v])]) := hO.add _
    have hA1 : Num (A ++ [(A.length, [.mref O.length])]) := hA.add _
    have hH1 : Held (mm [[]] (O ++ [(O.length, [v])]) (A ++ [(A.length, [.mref O.length])])) k t q S := hH.more _ _
    generalize hOe1 : O ++ [(O.length, [v])] = O1 at *
    generalize hAe1 : A ++ [(A.length, [V.mref O.length])] = A1 at *
    have hTl : (sortT (ifcs S S[i].n)).length ≤ 200000 := by rw [(sortT_perm _).length_eq]; exact ifcs_len hlim _
    have hnm : S[i].n ∈ S.map (·.n) := List.mem_map.2 ⟨S[i], List.getElem_mem hlt, rfl⟩
    obtain ⟨x2, y2, hO2, hA2, hin⟩ := ki_inner hlim (chain S S[i].n) (chain S S[i].n ++ sortT (ifcs S S[i].n)) i hlt (by rw [List.length_append]; omega) (fun a ha => by
        unfold subsP
        rw [List.contains_iff_mem, List.mem_filter]
        refine ⟨hnm, ?_⟩
        unfold subP
        rcases List.mem_append.1 ha with ha | ha
        · simp [ha]
        · simp [ha]) (fun a ha => by
        rcases List.mem_append.1 ha with ha | ha
        · exact chain_mem ha
        · obtain ⟨c, h1, _⟩ := hk.faces _ a ((sortT_perm _).mem_iff.1 ha)
          rw [h1]; rfl) (fun j hj hC => by
        have ha : (chain S S[i].n ++ sortT (ifcs S S[i].n))[j] ∈ sortT (ifcs S S[i].n) := by
          rw [List.getElem_append_right hC]
          exact List.getElem_mem _
        obtain ⟨c, h1, h2⟩ := hk.faces _ _ ((sortT_perm _).mem_iff.1 ha)
        rw [h1]; exact h2) (chain S S[i].n ++ sortT (ifcs S S[i].n)).length 0 _ _ (by omega) hO1 hA1 hH1
    have hH2 := hH1.more (F' := [[]]) x2 y2
    have c1 := ev_Class hH2 hlim.own S[i].n
    have c2 := ev_Concrete hH2 S[i].n
    unfold findV at c1
    rw [hlk] at c1 c2
    obtain ⟨x3, y3, ih1⟩ := ih (i + 1) _ _ (by omega) hO2 hA2 hH2
    refine ⟨[(O.length, [v])] ++ (x2 ++ x3), [(A.length, [.mref O.length])] ++ (y2 ++ y3), ?_⟩
    have eO : O ++ ([(O.length, [v])] ++ (x2 ++ x3)) = O1 ++ x2 ++ x3 := by rw [← hOe1]; simp [List.append_assoc]
    have eA : A ++ ([(A.length, [V.mref O.length])] ++ (y2 ++ y3)) = A1 ++ y2 ++ y3 := by rw [← hAe1]; simp [List.append_assoc]
    rw [eO, eA, cv_loop', ← ih1]
    clear eO eA hOe1 hAe1
    unfold kiSt at hin
    simp only [Option.getD_some, Option.isSome_some, Bool.true_and] at c1 c2
    simp only [Int.cast_ofNat_Int, List.map_append, List.map_map] at hin
    clear ih ih1 hO hA hO1 hA1 hO2 hA2 hH hH1 hH2 hk hlim hnd hnm
    have hCl : ∃ L, (chain S S[i].n).length = L + 1 ∧ (chain S S[i].n)[L]? = some sObject := by
      refine ⟨r.length, by rw [hr]; simp, ?_⟩
      have := hla
      rw [List.getLast?_eq_getElem?] at this
      rw [← this, hr]
      simp
    have hC0 : (chain S S[i].n)[0]? = some S[i].n := by rw [hr]; rfl
    obtain ⟨L, hL1, hL2⟩ := hCl
    clear hr hla hlk
    generalize sortT (ifcs S S[i].n) = T at *
    generalize chain S S[i].n = C at *
    generalize hgc : S[i] = c at *
    have hix0 : idxOk 0 C.length = true := by simp [idxOk]; omega
    have hixL : idxOk L C.length = true := by simp [idxOk]; omega
    have wL : IntKind.i64.wrap ((C.length : Int) - 1) = (L : Int) := by rw [wrap_small] <;> omega
    have z0 : ((C.length : Int) == 0) = false := by
      have : ¬ (C.length : Int) = 0 := by omega
      simpa using this
    have b1 : C.length ≤ 140737488355328 := by omega
    have b2 : C.length * 16 ≤ 140737488355328 := by omega
    have b3 : C.length + T.length ≤ 140737488355328 := by omega
    have b4 : (C.length + T.length) * 16 ≤ 140737488355328 := by omega
    unfold sObject at hL2
    unfold koSt
    unfold Cls.v Cls.cells at c1
    cases ha : c.a <;> rw [ha] at c1 c2 <;> simp [L8_1, g1, hix, hgn, hgc, s1, i1, hin, c1, c2, w1, hC0, hL2, hix0, hixL, wL, z0, b1, b2, b3, b4]
theorem ev_lawKin (l : List Cls) (hw : ∀ c ∈ l, c.Wf) (hl : l.length ≤ maxLen) : ∃ O A, ev tab prim 8 [.list 7 (l.map Cls.v) false] [[], []] = some (.bool true, [O, A]) := by
  obtain ⟨aO, aA, ha⟩ := ev_linkAwake
  have hC := ev_alikeClasses l hw hl false
  by_cases h0 : clsSum 0 l ≤ 12000
  case neg =>
    refine ⟨[], [], ?_⟩
    rw [decide_eq_false h0] at hC
    generalize l.map Cls.v = X at *
    rw [ev_fn' tab prim (f := 8) rfl _ _ rfl]
    simp [hC, ha]
  rw [decide_eq_true h0] at hC
  have hgl := good_size hw h0
  obtain ⟨x, y, hO, hA, h1⟩ := ev_Classes l (fun _ => hgl) [[]] [] [] num_nil num_nil false
  simp only [List.nil_append] at hO hA h1
  have m0 : ∀ O A, mm [[]] O A = [[], O, A] := fun _ _ => rfl
  cases he : classesE l with
  | some p =>
    obtain ⟨e, n⟩ := p
    have e0 : e ≠ 0 := classesE_code he
    rw [he] at h1
    dsimp only at h1
    rw [m0, m0] at h1
    refine ⟨x, y, ?_⟩
    generalize l.map Cls.v = X at *
    have b1 : (e == 0) = false := by simpa using e0
    have b2 : (e != 0) = true := by simpa using e0
    rw [ev_fn' tab prim (f := 8) rfl _ _ rfl]
    simp [hC, ha, h1, e0, b1, b2]
  | none =>
    have hd : dblG l = none := dblG_none.2 (classes_none.1 he).2.2.1
    have hk := kin_of he
    rw [he] at h1
    obtain ⟨k1, t1, q1, hH1, h1⟩ := h1
    obtain ⟨x3, y3, hL⟩ := ki_outer (prog_lim hgl) (prog_nodup hd) hk (prog l).length 0 x y (by omega) hO hA hH1
    have hN1 := ev_Names hH1
    refine ⟨x ++ x3, y ++ y3, ?_⟩
    unfold koSt at hL
    rw [m0] at h1 hN1 hL
    rw [m0] at h1 hL
    simp only [Int.cast_ofNat_Int] at hL
    generalize (prog l).map (·.n) = P at *
    generalize l.map Cls.v = X at *
    rw [ev_fn' tab prim (f := 8) rfl _ _ rfl]
    simp [hC, ha, h1, hN1, hL]
end Go.Proofs.YtdcgdcienckglaaGreat.Ev

/- A program that is nil. -/
namespace Go.Proofs.YtdcgdcienckglaaGreat.Ev
open Go

theorem ev_find_nil (nm : Nm) (M : Mem) : ev tab prim 48 [.nilp, .str nm] M = some (findV none, M) := by
  unfold findV
  unfold Cls.v Cls.cells
  rw [ev_fn' tab prim (f := 48) rfl _ _ rfl]
  simp [Cls.zero]
theorem ev_Names_nil (M : Mem) : ev tab prim 18 [.nilp] M = some (.list 1 [] true, M) := by
  rw [ev_fn' tab prim (f := 18) rfl _ _ rfl]
  simp
theorem ev_Concrete_nil (nm : Nm) (M : Mem) : ev tab prim 30 [.nilp, .str nm] M = some (.bool false, M) := by
  have hf := ev_find_nil nm ([] :: M)
  unfold findV Cls.v Cls.cells at hf
  rw [ev_fn' tab prim (f := 30) rfl _ _ rfl]
  simp [Cls.zero] at hf
  simp [hf]
theorem ev_Class_nil (nm : Nm) (M : Mem) : ev tab prim 26 [.nilp, .str nm] M = some (findV none, M) := by
  have hf := ev_find_nil nm ([(4, [.str [], .str [], .bool false, .bool false, .list 1 [] true, .list 3 [] true, .list 8 [] true])] :: M)
  obtain ⟨Mo, hO⟩ := ev_Own Cls.zero zero_own.1 zero_own.2.1 zero_own.2.2.1 zero_own.2.2.2
  unfold findV at hf ⊢
  unfold Cls.v Cls.cells at hf hO ⊢
  rw [ev_fn' tab prim (f := 26) rfl _ _ rfl]
  simp [Cls.zero] at hf hO
  simp [hf, hO, Cls.zero]
theorem ev_chain_nil (nm : Nm) (M : Mem) : ev tab prim 51 [.nilp, .str nm] M = some (.list 1 [] true, M) := by
  have hf := ev_find_nil nm ([] :: M)
  unfold findV Cls.v Cls.cells at hf
  rw [ev_fn' tab prim (f := 51) rfl _ _ rfl]
  simp [Cls.zero] at hf
  simp [S51_0, K51_0, hf]
theorem ev_Supers_nil (nm : Nm) (M : Mem) : ev tab prim 17 [.nilp, .str nm] M = some (.list 1 [] true, M) := by
  have hf := ev_chain_nil nm ([] :: M)
  rw [ev_fn' tab prim (f := 17) rfl _ _ rfl]
  simp [hf]
theorem ev_Subs_nil (nm : Nm) (M : Mem) : ev tab prim 28 [.nilp, .str nm] M = some (.list 1 [] true, M) := by
  have hf := ev_Names_nil ([] :: M)
  rw [ev_fn' tab prim (f := 28) rfl _ _ rfl]
  simp [hf]
  rw [cv_loop']
  simp [L28_0]
end Go.Proofs.YtdcgdcienckglaaGreat.Ev

/- A nil program's interfaces. -/
namespace Go.Proofs.YtdcgdcienckglaaGreat.Ev
open Go
theorem ev_spread_nil (nm : Nm) (u : Nat) (M : Mem) : ev tab prim 47 [.nilp, .str nm, .mref u] M = some (.tup [], M) := by
  have hf := ev_chain_nil nm ([] :: M)
  rw [ev_fn' tab prim (f := 47) rfl _ _ rfl]
  simp [hf]
  rw [cv_loop']
  simp [L47_1]
theorem ev_Interfaces_nil' {F : Mem} {O A : Boxes} (hO : Num O) (hA : Num A) (nm : Nm) : ∃ v w, ev tab prim 16 [.nilp, .str nm] (mm F O A) = some (.list 1 [] true, mm F (O ++ [(O.length, v)]) (A ++ [(A.length, w)])) := by
  have hn := mnew_O O A hO [mapO []] F
  have hs := ev_spread_nil nm O.length (([] : Boxes) :: mm F (O ++ [(O.length, [mapO []])]) A)
  have hf := ev_find_nil nm (([] : Boxes) :: mm F (O ++ [(O.length, [mapO []])]) A)
  have hm0 : mapO [] = .mapv none [] [] := rfl
  have hgk : bget (O ++ [(O.length, [mapO []])]) O.length = some [mapO []] := hO.get _
  have hk := ev_Keys ([] :: F) (O ++ [(O.length, [mapO []])]) A hA O.length
  have hS := ev_Sorted ([] :: F) (O ++ [(O.length, [mapO []])]) (A ++ [(A.length, [.mref O.length])]) A.length O.length [] [] (hA.get _) hgk (by simp) ⟨List.nodup_nil, by simp⟩
  have hst : sortT [] = [] := by simp [sortT]
  rw [hst, List.map_nil] at hS
  have c0 : ∀ O A, mm ([] :: F) O A = ([] : Boxes) :: mm F O A := fun _ _ => rfl
  unfold findV Cls.v Cls.cells at hf
  simp only [c0] at hk hS
  simp only [hm0] at hn hs hf hk hS
  simp [Cls.zero] at hf
  refine ⟨[.mapv none [] []], [.mref O.length], ?_⟩
  rw [ev_fn' tab prim (f := 16) rfl _ _ rfl]
  simp [hn, hs, hf, hk, hS]
theorem ev_Interfaces_nil {F : Mem} {O A : Boxes} (hO : Num O) (hA : Num A) (nm : Nm) : ∃ x y, ev tab prim 16 [.nilp, .str nm] (mm F O A) = some (.list 1 [] true, mm F (O ++ x) (A ++ y)) := by
  obtain ⟨v, w, h⟩ := ev_Interfaces_nil' (F := F) hO hA nm
  exact ⟨_, _, h⟩
end Go.Proofs.YtdcgdcienckglaaGreat.Ev

/- The law LinkGiven. -/
namespace Go.Proofs.YtdcgdcienckglaaGreat.Ev
open Go

def gvn (i : Nat) : Cls := builtins.getD i Cls.zero
theorem given_fine : (List.range 12).all (fun i => decide (classesF [plainC (gvn i).n sObject] = some (8, (gvn i).n)) && smallB (plainC (gvn i).n sObject)) = true := by kernel_rfl
theorem given_small : builtins.all smallB = true := by kernel_rfl
theorem given_none : classesF [] = none := by kernel_rfl
theorem gvn_mem {i : Nat} (h : i < 12) : gvn i ∈ builtins := by
  unfold gvn
  rw [List.getD_eq_getElem?_getD, List.getElem?_eq_getElem (show i < builtins.length from h)]
  exact List.getElem_mem _
theorem given_facts {i : Nat} (h : i < 12) : classesF [plainC (gvn i).n sObject] = some (8, (gvn i).n) ∧ smallB (plainC (gvn i).n sObject) = true ∧ look builtins (gvn i).n = some (gvn i) := by
  have hl : look builtins (gvn i).n = some (gvn i) := look_some (by decide) (gvn_mem h)
  have h := List.all_eq_true.1 given_fine i (List.mem_range.2 h)
  obtain ⟨h1, h2⟩ := (Bool.and_eq_true _ _).mp h
  exact ⟨of_decide_eq_true h1, h2, hl⟩
theorem gvn_get {i : Nat} (h : i < 12) : (builtins.map Cls.v)[i]? = some (gvn i).v := by
  have h' : i < builtins.length := h
  unfold gvn
  rw [List.getD_eq_getElem?_getD, List.getElem?_map, List.getElem?_eq_getElem h']
  rfl

def gvSt (kk : Int) (k : Nat) (M : Mem) (i : Nat) : St := { env := [(0, .int .i64 kk), (3, .list 7 (builtins.map Cls.v) false), (4, .list 7 (builtins.map Cls.v) false), (5, .ptr 0 k 0), (8, .int .i64 i)], mem := M }
theorem given_loop (kk : Int) {O A : Boxes} {k t q : Nat} {S : List Cls} (hH : Held (mm [[]] O A) k t q S) (hown : ∀ c ∈ S, c.OwnOk) (hl : ∀ nm, look S nm = look builtins nm) :
    cv tab prim (.loop L9_0) (gvSt kk k (mm [[]] O A) 0) = some (.exit 0, { env := [(0, .int .i64 kk), (4, .list 7 (builtins.map Cls.v) false)], mem := mm [[]] O A }) := by
  have hY : (builtins.map Cls.v).length = 12 := rfl
  have m0 : ∀ O A, mm [[]] O A = [[], O, A] := fun _ _ => rfl
  refine loop_all (gvSt kk k (mm [[]] O A)) 12 _ (fun i hi => ?_) ?_ (by simp)
  · have g1 : (i : Int) < 12 := by omega
    have w1 : IntKind.i64.wrap ((i : Int) + 1) = ((i + 1 : Nat) : Int) := by rw [wrap_small] <;> omega
    have hx := gvn_get hi
    have hC := ev_Class hH hown (gvn i).n
    rw [hl, (given_facts hi).2.2] at hC
    have hs := ev_RefSame (gvn i) (gvn i) (good_of (List.all_eq_true.1 given_small _ (gvn_mem hi))).1
    rw [Cls.same_refl] at hs
    have hix : idxOk i 12 = true := by simp [idxOk]; omega
    have hng : ¬ (i : Int) < 0 := by omega
    rw [m0] at hC
    unfold findV at hC
    unfold gvSt
    rw [m0]
    generalize builtins.map Cls.v = Y at *
    generalize gvn i = c at *
    unfold Cls.v Cls.cells at hx hs hC
    simp only [Option.getD_some, Option.isSome_some] at hC
    simp [L9_0, g1, w1, hY, hx, hC, hs, hix]
  · unfold gvSt
    rw [m0]
    generalize builtins.map Cls.v = Y at *
    simp [L9_0, hY]

theorem ev_lawGiven (kk : Int) : ∃ O A, ev tab prim 9 [.int .i64 kk] [[], []] = some (.bool true, [O, A]) := by
  obtain ⟨aO, aA, ha⟩ := ev_linkAwake
  have hR := ev_Round kk 12 (by decide) (by decide)
  obtain ⟨r0, r1⟩ := round_in kk 12 (by decide)
  generalize round kk 12 = z at *
  obtain ⟨r, hr, rfl⟩ : ∃ r : Nat, r < 12 ∧ z = (r : Int) := ⟨z.toNat, by omega, by omega⟩
  obtain ⟨hf, hg, _⟩ := given_facts hr
  obtain ⟨x, y, hO, hA, h1⟩ := ev_Classes [] (fun _ => goodL_of (by decide) (by decide)) [[]] [] [] num_nil num_nil true
  rw [classesE_F, given_none] at h1
  obtain ⟨k, t, q, hH, h1⟩ := h1
  simp only [List.nil_append] at hO hA hH h1
  have hd : dblG [] = none := by decide
  have hL := given_loop kk hH (fun c hc => ?_) (fun nm => by rw [(prog_like hd).look, List.append_nil])
  · have hN := ev_Names hH
    have hpl : ((prog []).map (·.n)).length = 12 := by rw [List.length_map, prog_len]; rfl
    obtain ⟨x2, y2, hO2, hA2, h2⟩ := ev_Classes [plainC (gvn r).n sObject] (fun _ => goodL_of (by simp [hg]) (by simp [plainC])) [[]] x y hO hA false
    rw [classesE_F, hf] at h2
    have hx := gvn_get hr
    have hB := ev_Builtin
    have hRB := ev_rBuiltin
    have hRo := builtins_row
    have hY : (builtins.map Cls.v).length = 12 := rfl
    have m0 : ∀ F O A, mm [F] O A = [F, O, A] := fun _ _ _ => rfl
    have c1 := ev_Class_nil (gvn r).n [[], x ++ x2, y ++ y2]
    obtain ⟨x3, y3, hI⟩ := ev_Interfaces_nil (F := [[]]) hO2 hA2 (gvn r).n
    have hix : idxOk r 12 = true := by simp [idxOk]; omega
    have hng : ¬ (r : Int) < 0 := by omega
    refine ⟨x ++ x2 ++ x3, y ++ y2 ++ y3, ?_⟩
    unfold gvSt at hL
    simp only [m0, List.map_nil, List.map_cons, Int.cast_ofNat_Int] at h1 h2 hL hN hI
    unfold findV at c1
    generalize (prog []).map (·.n) = P at *
    generalize builtins.map Cls.v = Y at *
    generalize gvn r = c at *
    unfold Cls.v Cls.cells at hx h2 c1
    unfold plainC sObject at h2
    simp at hL h1 h2 hN c1 hI
    simp [Cls.zero] at c1
    rw [ev_fn' tab prim (f := 9) rfl _ _ rfl]
    simp [h1, h2, hL, hN, hpl, hB, hRB, hRo, hY, hR, hx, hix, c1, hI, ha, ev_Names_nil, ev_Supers_nil, ev_Concrete_nil, ev_Subs_nil]
  · have hg0 : GoodL [] := goodL_of (by decide) (by decide)
    exact (prog_lim hg0).own c hc
end Go.Proofs.YtdcgdcienckglaaGreat.Ev

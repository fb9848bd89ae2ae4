import Derived.Test.YtpajgenngpjbaaaGreatKzs
import Derived.Test.YtpajgenngpjbaaaGreatGh
/- Chains of supers: where they begin and end. -/
namespace Go.Proofs.YtpajgenngpjbaaaGreat.Ev
open Go

theorem chainG_pre (S : List Cls) : ∀ (k : Nat) (out : List Nm) (nm : Nm), ∃ r, chainG S k out nm = out ++ r
  | 0, out, nm => ⟨[], by rw [chainG, List.append_nil]⟩
  | k + 1, out, nm => by
    unfold chainG
    cases look S nm with
    | none => exact ⟨[], by simp⟩
    | some c =>
      simp only
      split
      · exact ⟨[], by simp⟩
      · obtain ⟨r, hr⟩ := chainG_pre S k (out ++ [nm]) c.s
        exact ⟨nm :: r, by rw [hr]; simp⟩
theorem chain_head {S : List Cls} {n : Nm} {c : Cls} (h : look S n = some c) : ∃ r, chain S n = n :: r := by
  unfold chain chainG
  rw [h]
  simp only [List.contains_nil, Bool.false_eq_true, if_false, List.nil_append]
  obtain ⟨r, hr⟩ := chainG_pre S S.length [n] c.s
  exact ⟨r, hr⟩
/-- How it stood, as place i was filled. -/
theorem chainG_at (S : List Cls) : ∀ (k : Nat) (out : List Nm) (nm : Nm) (i : Nat) (x : Nm), out.length ≤ i → (chainG S k out nm)[i]? = some x → ∃ k', k' ≤ k ∧ chainG S k out nm = chainG S k' ((chainG S k out nm).take i) x
  | 0, out, nm, i, x, hi, hx => by
    rw [chainG, List.getElem?_eq_none hi] at hx
    cases hx
  | k + 1, out, nm, i, x, hi, hx => by
    by_cases h0 : out.length = i
    · obtain ⟨r, hr⟩ := chainG_pre S (k + 1) out nm
      have hx2 := hx
      rw [hr] at hx2
      rw [List.getElem?_append_right (by omega), h0, Nat.sub_self] at hx2
      have htk : (chainG S (k + 1) out nm).take i = out := by rw [hr, ← h0]; simp
      rw [htk]
      have hnx : nm = x := by
        unfold chainG at hx
        cases hl : look S nm with
        | none => rw [hl] at hx; simp only at hx; rw [List.getElem?_eq_none (by omega)] at hx; cases hx
        | some c =>
          rw [hl] at hx
          simp only at hx
          split at hx
          · rw [List.getElem?_eq_none (by omega)] at hx; cases hx
          · obtain ⟨r2, hr2⟩ := chainG_pre S k (out ++ [nm]) c.s
            rw [hr2, List.append_assoc, List.getElem?_append_right (by omega), h0, Nat.sub_self] at hx
            simpa using hx
      exact ⟨k + 1, Nat.le_refl _, by rw [hnx]⟩
    · cases hl : look S nm with
      | none =>
        have hu : chainG S (k + 1) out nm = out := by rw [chainG]; simp only [hl]
        rw [hu, List.getElem?_eq_none (by omega)] at hx; cases hx
      | some c =>
        by_cases hc : out.contains nm = true
        · have hu : chainG S (k + 1) out nm = out := by rw [chainG]; simp only [hl]; rw [if_pos hc]
          rw [hu, List.getElem?_eq_none (by omega)] at hx; cases hx
        · have hu : chainG S (k + 1) out nm = chainG S k (out ++ [nm]) c.s := by rw [chainG]; simp only [hl]; rw [if_neg hc]
          rw [hu] at hx ⊢
          obtain ⟨k', h1, h2⟩ := chainG_at S k (out ++ [nm]) c.s i x (by rw [List.length_append]; simp; omega) hx
          exact ⟨k', by omega, h2⟩
theorem chainG_drop (S : List Cls) : ∀ (k k' : Nat) (p q : List Nm) (nm : Nm), k ≤ k' → ∃ t, chainG S k' q nm = (chainG S k (p ++ q) nm).drop p.length ++ t
  | 0, k', p, q, nm, _ => by
    obtain ⟨r, hr⟩ := chainG_pre S k' q nm
    exact ⟨r, by rw [hr, chainG]; simp⟩
  | k + 1, k', p, q, nm, hk => by
    obtain ⟨k'', rfl⟩ : ∃ k'', k' = k'' + 1 := ⟨k' - 1, by omega⟩
    obtain ⟨r, hr⟩ := chainG_pre S (k'' + 1) q nm
    have hs : chainG S (k + 1) (p ++ q) nm = p ++ q → ∃ t, chainG S (k'' + 1) q nm = (chainG S (k + 1) (p ++ q) nm).drop p.length ++ t := fun h => ⟨r, by rw [hr, h]; simp⟩
    cases hl : look S nm with
    | none => exact hs (by unfold chainG; rw [hl])
    | some c =>
      by_cases hc : (p ++ q).contains nm = true
      · exact hs (by unfold chainG; rw [hl]; simp only; rw [if_pos hc])
      · have hq : ¬ q.contains nm = true := fun h => hc (by simp at h ⊢; exact .inr h)
        obtain ⟨t, ht⟩ := chainG_drop S k k'' p (q ++ [nm]) c.s (by omega)
        refine ⟨t, ?_⟩
        unfold chainG
        rw [hl]
        simp only
        rw [if_neg hc, if_neg hq, ht, List.append_assoc]
theorem nodup_sub_len : ∀ (l m : List Nm), l.Nodup → (∀ x ∈ l, x ∈ m) → l.length ≤ m.length
  | [], _, _, _ => Nat.zero_le _
  | a :: r, m, h1, h2 => by
    rw [List.nodup_cons] at h1
    have ha := h2 a (by simp)
    have := nodup_sub_len r (m.erase a) h1.2 fun x hx => (List.mem_erase_of_ne (show x ≠ a from fun e => h1.1 (by rw [← e]; exact hx))).2 (h2 x (by simp [hx]))
    rw [List.length_erase_of_mem ha] at this
    have := List.length_pos_of_mem ha
    rw [List.length_cons]
    omega
theorem chainG_last {S : List Cls} : ∀ (k : Nat) (out : List Nm) (nm x : Nm) (c : Cls), S.length < out.length + k → out.Nodup → (∀ y ∈ out, y ∈ S.map (·.n)) → out.getLast? = some x → look S x = some c → c.s = nm →
    ∃ x' c', (chainG S k out nm).getLast? = some x' ∧ look S x' = some c' ∧ (look S c'.s = none ∨ c'.s ∈ chainG S k out nm)
  | 0, out, nm, x, c, hk, hn, hs, _, _, _ => by
    have := nodup_sub_len out (S.map (·.n)) hn hs
    rw [List.length_map] at this
    omega
  | k + 1, out, nm, x, c, hk, hn, hs, hx, hc, hnm => by
    unfold chainG
    cases hl : look S nm with
    | none => exact ⟨x, c, hx, hc, .inl (by rw [hnm]; exact hl)⟩
    | some d =>
      simp only
      by_cases hcn : out.contains nm = true
      · rw [if_pos hcn]
        exact ⟨x, c, hx, hc, .inr (by rw [hnm]; simpa using hcn)⟩
      · rw [if_neg hcn]
        refine chainG_last k (out ++ [nm]) d.s nm d (by rw [List.length_append]; simp; omega) ?_ (fun y hy => ?_) (by simp) hl rfl
        · rw [List.nodup_append]
          refine ⟨hn, by simp, fun a ha b hb => ?_⟩
          rw [List.mem_singleton.1 hb]
          exact fun e => hcn (by rw [← e]; simpa using ha)
        · rcases List.mem_append.1 hy with hy | hy
          · exact hs y hy
          · rw [List.mem_singleton.1 hy]
            obtain ⟨h1, h2⟩ := look_mem hl
            exact List.mem_map.2 ⟨d, h1, h2⟩
/-- Without a ring, a chain ends where no super is. -/
theorem chain_end {S : List Cls} {n : Nm} {c : Cls} (h : look S n = some c) (hr : ∀ x d, look S x = some d → x ∉ chain S d.s) : ∃ x d, (chain S n).getLast? = some x ∧ look S x = some d ∧ look S d.s = none := by
  have hu : chain S n = chainG S S.length [n] c.s := by
    unfold chain
    rw [chainG]
    simp only [h, List.contains_nil, Bool.false_eq_true, if_false, List.nil_append]
  obtain ⟨x, d, h1, h2, h3⟩ := chainG_last (S := S) S.length [n] c.s n c (by simp) (by simp) (fun y hy => by rw [List.mem_singleton.1 hy]; exact List.mem_map.2 ⟨c, look_mem h⟩) (by simp) h rfl
  rw [← hu] at h1 h3
  refine ⟨x, d, h1, h2, ?_⟩
  rcases h3 with h3 | h3
  · exact h3
  · exfalso
    obtain ⟨i, hi, hix⟩ := List.getElem_of_mem h3
    have hxi : (chain S n)[i]? = some d.s := by rw [List.getElem?_eq_getElem hi, hix]
    obtain ⟨k', hk, hst⟩ := chainG_at S (S.length + 1) [] n i d.s (Nat.zero_le _) hxi
    have hst : chain S n = chainG S k' ((chain S n).take i) d.s := hst
    obtain ⟨t, ht⟩ := chainG_drop S k' (S.length + 1) ((chain S n).take i) [] d.s hk
    rw [List.append_nil, ← hst, List.length_take, Nat.min_eq_left (by omega)] at ht
    refine hr x d h2 ?_
    unfold chain at ht ⊢
    rw [ht]
    refine List.mem_append_left _ ?_
    have hl : (chain S n).drop i ≠ [] := by
      intro h0
      have := congrArg List.length h0
      rw [List.length_drop, List.length_nil] at this
      omega
    have hgl : ((chain S n).drop i).getLast? = some x := by
      rw [List.getLast?_drop, if_neg (by omega)]
      exact h1
    exact List.mem_of_getLast? hgl
end Go.Proofs.YtpajgenngpjbaaaGreat.Ev

/- What stands behind LinkKin, in plain Lean. -/
namespace Go.Proofs.YtpajgenngpjbaaaGreat.Ev
open Go

theorem chainG_mem {S : List Cls} : ∀ (k : Nat) (out : List Nm) (nm : Nm), (∀ y ∈ out, (look S y).isSome = true) → ∀ y ∈ chainG S k out nm, (look S y).isSome = true
  | 0, out, nm, h => by rw [chainG]; exact h
  | k + 1, out, nm, h => by
    unfold chainG
    cases hl : look S nm with
    | none => exact h
    | some c =>
      simp only
      split
      · exact h
      · refine chainG_mem k (out ++ [nm]) c.s fun y hy => ?_
        rcases List.mem_append.1 hy with hy | hy
        · exact h y hy
        · rw [List.mem_singleton.1 hy, hl]; rfl
theorem chain_mem {S : List Cls} {n y : Nm} (h : y ∈ chain S n) : (look S y).isSome = true := chainG_mem _ [] n (by simp) y h
structure Kin (S : List Cls) : Prop where
  head : ∀ n c, look S n = some c → ∃ r, chain S n = n :: r
  last : ∀ n c, look S n = some c → (chain S n).getLast? = some sObject
  faces : ∀ n a, a ∈ ifcs S n → ∃ c, look S a = some c ∧ c.i = true
theorem kin_of {l : List Cls} (h : classesE l = none) : Kin (prog l) := by
  obtain ⟨h30, herr, ⟨hnd, hnb⟩, hrules⟩ := classes_none.1 h
  have hd : dblG l = none := dblG_none.2 ⟨hnd, hnb⟩
  have hn := prog_nodup hd
  have hb : ∀ b ∈ builtins, look (prog l) b.n = some b := fun b hb => look_some hn (prog_mem.2 (.inl hb))
  have hR : ∀ c ∈ l, superP (prog l) c = true ∧ implP (prog l) c = true ∧ straightP (prog l) c = true := fun c hc => by
    unfold rulesR at hrules
    exact ⟨hrules (superP (prog l)) (by simp) c hc, hrules (implP (prog l)) (by simp) c hc, hrules (straightP (prog l)) (by simp) c hc⟩
  have hempty : look (prog l) [] = none := by
    refine look_none fun hm => ?_
    obtain ⟨c, hc, he⟩ := List.mem_map.1 hm
    rcases prog_mem.1 hc with h1 | h1
    · have : ∀ b ∈ builtins, b.n ≠ [] := by decide
      exact this c h1 he
    · have h2 := herr c h1
      unfold Cls.err at h2
      rw [he] at h2
      have h3 : nameOk [] = false := by kernel_rfl
      rw [h3] at h2
      simp at h2
  have hO : look (prog l) sObject = some (builtins.getD 0 Cls.zero) := hb (builtins.getD 0 Cls.zero) (show builtins[0]'(by decide) ∈ builtins from List.getElem_mem _)
  have hT : look (prog l) sThrowable = some (builtins.getD 1 Cls.zero) := hb (builtins.getD 1 Cls.zero) (show builtins[1]'(by decide) ∈ builtins from List.getElem_mem _)
  have hlen := prog_len l
  have c0 : chain (prog l) [] = [] := by unfold chain; rw [chainG]; simp only [hempty]
  have cO : chain (prog l) sObject = [sObject] := by
    unfold chain
    obtain ⟨k, hk⟩ : ∃ k, (prog l).length = k + 1 := ⟨11 + l.length, by omega⟩
    rw [hk, chainG]
    simp only [hO]
    rw [if_neg (by decide), chainG]
    have : (builtins.getD 0 Cls.zero).s = [] := rfl
    simp only [this, hempty]
    rfl
  have cT : chain (prog l) sThrowable = [sThrowable, sObject] := by
    unfold chain
    obtain ⟨k, hk⟩ : ∃ k, (prog l).length = k + 1 + 1 := ⟨10 + l.length, by omega⟩
    rw [hk, chainG]
    simp only [hT]
    rw [if_neg (by decide), chainG]
    have e1 : (builtins.getD 1 Cls.zero).s = sObject := rfl
    simp only [e1, hO]
    rw [if_neg (by decide), chainG]
    have : (builtins.getD 0 Cls.zero).s = [] := rfl
    simp only [this, hempty]
    rfl
  have hbs : ∀ b ∈ builtins, (b.s = [] ∧ b.n = sObject) ∨ (b.s = sObject ∧ b.n ∉ [sObject]) ∨ (b.s = sThrowable ∧ b.n ∉ [sThrowable, sObject]) := by decide
  have hring : ∀ x d, look (prog l) x = some d → x ∉ chain (prog l) d.s := fun x d hx => by
    obtain ⟨hm, rfl⟩ := look_mem hx
    rcases prog_mem.1 hm with h1 | h1
    · rcases hbs d h1 with ⟨e, _⟩ | ⟨e, e2⟩ | ⟨e, e2⟩
      · rw [e, c0]; simp
      · rw [e, cO]; exact e2
      · rw [e, cT]; exact e2
    · have := (hR d h1).2.2
      unfold straightP at this
      simp only [Bool.and_eq_true, Bool.not_eq_true', List.contains_eq_mem, decide_eq_false_iff_not] at this
      exact this.1
  refine ⟨fun n c hc => chain_head hc, fun n c hc => ?_, fun n a ha => ?_⟩
  · obtain ⟨x, d, h1, h2, h3⟩ := chain_end hc hring
    rw [h1]
    obtain ⟨hm, rfl⟩ := look_mem h2
    rcases prog_mem.1 hm with h4 | h4
    · rcases hbs d h4 with ⟨_, e⟩ | ⟨e, _⟩ | ⟨e, _⟩
      · rw [e]
      · rw [e, hO] at h3; cases h3
      · rw [e, hT] at h3; cases h3
    · have := (hR d h4).1
      unfold superP at this
      rw [h3] at this
      cases this
  · have hface : ∀ x ∈ univ (prog l), ∃ c, look (prog l) x = some c ∧ c.i = true := fun x hx => by
      obtain ⟨c, hc, hxc⟩ := List.mem_flatMap.1 hx
      rcases prog_mem.1 hc with h1 | h1
      · have : ∀ c ∈ builtins, c.im = [] := by decide
        rw [this c h1] at hxc; cases hxc
      · obtain ⟨i, hi, rfl⟩ := List.getElem_of_mem hxc
        have := (hR c h1).2.1
        unfold implP at this
        have h2 := of_decide_eq_true this i hi
        unfold implP1 at h2
        rw [List.getD_eq_getElem?_getD, List.getElem?_eq_getElem hi, Option.getD_some] at h2
        cases hk : look (prog l) c.im[i] with
        | none => rw [hk] at h2; cases h2
        | some d => rw [hk] at h2; simp only [Bool.and_eq_true, Option.getD_some] at h2; exact ⟨d, rfl, h2.2.1⟩
    have h1 := spreadG_fine (prog l) (fuelS (prog l)) n [] List.nodup_nil (by simp)
    unfold ifcs at ha
    dsimp only at ha
    split at ha
    · rename_i hi
      have hself : ∃ c, look (prog l) n = some c ∧ c.i = true := by
        cases hk : look (prog l) n with
        | none => rw [hk] at hi; cases hi
        | some c => rw [hk] at hi; exact ⟨c, rfl, hi⟩
      split at ha
      · exact hface a (h1.2 a ha)
      · rcases List.mem_append.1 ha with ha | ha
        · exact hface a (h1.2 a ha)
        · rw [List.mem_singleton.1 ha]; exact hself
    · exact hface a (h1.2 a ha)
end Go.Proofs.YtpajgenngpjbaaaGreat.Ev

/- The law LinkKin (walk). -/
namespace Go.Proofs.YtpajgenngpjbaaaGreat.Ev
open Go

def kiSt (S : List Cls) (k : Nat) (C : List Nm) (al : List Nm) (i : Nat) (M : Mem) (j : Nat) : St :=
  { env := [(3, .ptr 0 k 0), (6, .list 1 ((S.map (·.n)).map V.str) false), (7, .int .i64 i), (8, .list 1 (C.map V.str) false), (10, .list 1 (al.map V.str) false), (11, .int .i64 j)], mem := M }
end Go.Proofs.YtpajgenngpjbaaaGreat.Ev

/- The law LinkKin (walk), the rest. -/
namespace Go.Proofs.YtpajgenngpjbaaaGreat.Ev
open Go

def koSt (S : List Cls) (k : Nat) (M : Mem) (i : Nat) : St := { env := [(3, .ptr 0 k 0), (6, .list 1 ((S.map (·.n)).map V.str) false), (7, .int .i64 i)], mem := M }
end Go.Proofs.YtpajgenngpjbaaaGreat.Ev

/- A program that is nil. -/
namespace Go.Proofs.YtpajgenngpjbaaaGreat.Ev
open Go

theorem ev_find_nil (nm : Nm) (M : Mem) : ev tab prim 54 [.nilp, .str nm] M = some (findV none, M) := by
  unfold findV
  unfold Cls.v Cls.cells
  rw [ev_fn' tab prim (f := 54) rfl _ _ rfl]
  simp [Cls.zero]
theorem ev_Names_nil (M : Mem) : ev tab prim 11 [.nilp] M = some (.list 1 [] true, M) := by
  rw [ev_fn' tab prim (f := 11) rfl _ _ rfl]
  simp
theorem ev_Concrete_nil (nm : Nm) (M : Mem) : ev tab prim 17 [.nilp, .str nm] M = some (.bool false, M) := by
  have hf := ev_find_nil nm ([] :: M)
  unfold findV Cls.v Cls.cells at hf
  rw [ev_fn' tab prim (f := 17) rfl _ _ rfl]
  simp [Cls.zero] at hf
  simp [hf]
theorem ev_Class_nil (nm : Nm) (M : Mem) : ev tab prim 14 [.nilp, .str nm] M = some (findV none, M) := by
  have hf := ev_find_nil nm ([(4, [.str [], .str [], .bool false, .bool false, .list 1 [] true, .list 3 [] true, .list 8 [] true])] :: M)
  obtain ⟨Mo, hO⟩ := ev_Own Cls.zero zero_own.1 zero_own.2.1 zero_own.2.2.1 zero_own.2.2.2
  unfold findV at hf ⊢
  unfold Cls.v Cls.cells at hf hO ⊢
  rw [ev_fn' tab prim (f := 14) rfl _ _ rfl]
  simp [Cls.zero] at hf hO
  simp [hf, hO, Cls.zero]
theorem ev_chain_nil (nm : Nm) (M : Mem) : ev tab prim 52 [.nilp, .str nm] M = some (.list 1 [] true, M) := by
  have hf := ev_find_nil nm ([] :: M)
  unfold findV Cls.v Cls.cells at hf
  rw [ev_fn' tab prim (f := 52) rfl _ _ rfl]
  simp [Cls.zero] at hf
  simp [S52_0, K52_0, hf]
theorem ev_Supers_nil (nm : Nm) (M : Mem) : ev tab prim 12 [.nilp, .str nm] M = some (.list 1 [] true, M) := by
  have hf := ev_chain_nil nm ([] :: M)
  rw [ev_fn' tab prim (f := 12) rfl _ _ rfl]
  simp [hf]
end Go.Proofs.YtpajgenngpjbaaaGreat.Ev

/- A nil program's interfaces. -/
namespace Go.Proofs.YtpajgenngpjbaaaGreat.Ev
open Go
theorem ev_spread_nil (nm : Nm) (u : Nat) (M : Mem) : ev tab prim 53 [.nilp, .str nm, .mref u] M = some (.tup [], M) := by
  have hf := ev_chain_nil nm ([] :: M)
  rw [ev_fn' tab prim (f := 53) rfl _ _ rfl]
  simp [hf]
  rw [cv_loop']
  simp [L53_1]
theorem ev_Interfaces_nil' {F : Mem} {O A : Boxes} (hO : Num O) (hA : Num A) (nm : Nm) : ∃ v w, ev tab prim 13 [.nilp, .str nm] (mm F O A) = some (.list 1 [] true, mm F (O ++ [(O.length, v)]) (A ++ [(A.length, w)])) := by
  have hn := mnew_O O A hO [mapO []] F
  have hs := ev_spread_nil nm O.length (([] : Boxes) :: mm F (O ++ [(O.length, [mapO []])]) A)
  have hf := ev_find_nil nm (([] : Boxes) :: mm F (O ++ [(O.length, [mapO []])]) A)
  have hm0 : mapO [] = .mapv none [] [] := rfl
  have hgk : bget (O ++ [(O.length, [mapO []])]) O.length = some [mapO []] := hO.get _
  have hk := ev_Keys ([] :: F) (O ++ [(O.length, [mapO []])]) A hA O.length
  have hS := ev_Sorted ([] :: F) (O ++ [(O.length, [mapO []])]) (A ++ [(A.length, [.mref O.length])]) A.length O.length [] [] (hA.get _) hgk (by simp) ⟨List.nodup_nil, by simp⟩
  have hst : sortT [] = [] := by simp [sortT]
  rw [hst, List.map_nil] at hS
  have c0 : ∀ O A, mm ([] :: F) O A = ([] : Boxes) :: mm F O A := fun _ _ => rfl
  unfold findV Cls.v Cls.cells at hf
  simp only [c0] at hk hS
  simp only [hm0] at hn hs hf hk hS
  simp [Cls.zero] at hf
  refine ⟨[.mapv none [] []], [.mref O.length], ?_⟩
  rw [ev_fn' tab prim (f := 13) rfl _ _ rfl]
  simp [hn, hs, hf, hk, hS]
theorem ev_Interfaces_nil {F : Mem} {O A : Boxes} (hO : Num O) (hA : Num A) (nm : Nm) : ∃ x y, ev tab prim 13 [.nilp, .str nm] (mm F O A) = some (.list 1 [] true, mm F (O ++ x) (A ++ y)) := by
  obtain ⟨v, w, h⟩ := ev_Interfaces_nil' (F := F) hO hA nm
  exact ⟨_, _, h⟩
end Go.Proofs.YtpajgenngpjbaaaGreat.Ev

/- The document's program in plain Lean: its supers and interfaces are the program's. -/
namespace Go.Proofs.YtpajgenngpjbaaaGreat.Ev
open Go

/-! ### Supers -/
/-- Up from a class, so many steps. -/
def supG (Q : List Cls) : Nat → Nm → List Nm
  | 0, _ => []
  | n + 1, nm => match look Q nm with
    | none => []
    | some c => nm :: supG Q n c.s
def sup (Q : List Cls) (nm : Nm) : List Nm := supG Q Q.length nm
theorem supG_none {Q : List Cls} {nm : Nm} (h : look Q nm = none) : ∀ n, supG Q n nm = []
  | 0 => rfl
  | n + 1 => by rw [supG, h]
theorem supG_some {Q : List Cls} {nm : Nm} {c : Cls} (h : look Q nm = some c) (n : Nat) : supG Q (n + 1) nm = nm :: supG Q n c.s := by rw [supG, h]
theorem supG_len (Q : List Cls) : ∀ (n : Nat) (nm : Nm), (supG Q n nm).length ≤ n
  | 0, _ => Nat.le_refl _
  | n + 1, nm => by
    cases hl : look Q nm with
    | none => rw [supG_none hl]; exact Nat.zero_le _
    | some c => rw [supG_some hl, List.length_cons]; exact Nat.succ_le_succ (supG_len Q n c.s)
theorem sup_len (Q : List Cls) (nm : Nm) : (sup Q nm).length ≤ Q.length := supG_len Q _ nm
theorem chainG_sup (Q : List Cls) : ∀ (k : Nat) (out : List Nm) (nm : Nm), ∃ m, m ≤ k ∧ chainG Q k out nm = out ++ supG Q m nm
  | 0, out, nm => ⟨0, Nat.le_refl _, by simp [chainG, supG]⟩
  | k + 1, out, nm => by
    unfold chainG
    cases hl : look Q nm with
    | none => exact ⟨0, by omega, by simp [supG]⟩
    | some c =>
      simp only
      split
      · exact ⟨0, by omega, by simp [supG]⟩
      · obtain ⟨m, h1, h2⟩ := chainG_sup Q k (out ++ [nm]) c.s
        exact ⟨m + 1, by omega, by rw [h2, supG_some hl]; simp⟩
theorem supG_take (Q : List Cls) : ∀ (n m : Nat) (nm : Nm), m ≤ n → supG Q m nm = (supG Q n nm).take m
  | n, 0, nm, _ => by simp [supG]
  | 0, m + 1, nm, h => by omega
  | n + 1, m + 1, nm, h => by
    cases hl : look Q nm with
    | none => rw [supG_none hl, supG_none hl]; rfl
    | some c => rw [supG_some hl, supG_some hl, List.take_succ_cons, supG_take Q n m c.s (by omega)]
theorem supG_done (Q : List Cls) : ∀ (n : Nat) (nm x : Nm) (d : Cls), (supG Q n nm).getLast? = some x → look Q x = some d → look Q d.s = none → ∀ m, n ≤ m → supG Q m nm = supG Q n nm
  | 0, nm, x, d, h, _, _, _, _ => by simp [supG] at h
  | n + 1, nm, x, d, h, hx, hd, m, hm => by
    cases hl : look Q nm with
    | none => rw [supG_none hl] at h; cases h
    | some c =>
      obtain ⟨m, rfl⟩ : ∃ k, m = k + 1 := ⟨m - 1, by omega⟩
      rw [supG_some hl] at h
      rw [supG_some hl, supG_some hl]
      cases hr : supG Q n c.s with
      | nil =>
        rw [hr] at h
        simp only [List.getLast?_singleton, Option.some.injEq] at h
        subst h
        rw [hl] at hx
        cases hx
        rw [supG_none hd]
      | cons y r =>
        rw [hr, List.getLast?_cons_cons, ← hr] at h
        rw [supG_done Q n c.s x d h hx hd m (by omega), hr]
theorem chain_supM (Q : List Cls) (nm : Nm) : ∃ m, m ≤ Q.length ∧ chain Q nm = supG Q m nm := by
  obtain ⟨m, h1, h2⟩ := chainG_sup Q (Q.length + 1) [] nm
  have h2 : chain Q nm = supG Q m nm := h2
  have h3 := chain_len Q nm
  by_cases h : m ≤ Q.length
  · exact ⟨m, h, h2⟩
  · refine ⟨Q.length, Nat.le_refl _, ?_⟩
    rw [h2] at h3 ⊢
    rw [supG_take Q m Q.length nm (by omega), List.take_of_length_le h3]
/-- Without rings the two go up alike. -/
theorem chain_eq_sup {Q : List Cls} (hr : ∀ x d, look Q x = some d → x ∉ chain Q d.s) (nm : Nm) : chain Q nm = sup Q nm := by
  obtain ⟨m, hm, he⟩ := chain_supM Q nm
  cases hl : look Q nm with
  | none => unfold sup; rw [he, supG_none hl, supG_none hl]
  | some c =>
    obtain ⟨x, d, h1, h2, h3⟩ := chain_end hl hr
    unfold sup
    rw [he] at h1 ⊢
    exact (supG_done Q m nm x d h1 h2 h3 _ hm).symm
theorem sup_within (Q : List Cls) (C : Nm → Prop) (hC : ∀ y c, C y → look Q y = some c → (look Q c.s).isSome = true → C c.s) : ∀ (n : Nat) (nm : Nm), ((look Q nm).isSome = true → C nm) → ∀ x ∈ supG Q n nm, C x
  | 0, _, _, x, hx => by cases hx
  | n + 1, nm, h, x, hx => by
    cases hl : look Q nm with
    | none => rw [supG_none hl] at hx; cases hx
    | some c =>
      have hn := h (by rw [hl]; rfl)
      rw [supG_some hl] at hx
      rcases List.mem_cons.1 hx with rfl | hx
      · exact hn
      · exact sup_within Q C hC n c.s (hC nm c hn hl) x hx
theorem chainG_closed {Q : List Cls} : ∀ (k : Nat) (out : List Nm) (nm : Nm), Q.length < out.length + k → out.Nodup → (∀ y ∈ out, y ∈ Q.map (·.n)) →
    (∀ y ∈ out, ∀ c, look Q y = some c → (look Q c.s).isSome = true → c.s ∈ out ∨ c.s = nm) → ∀ y ∈ chainG Q k out nm, ∀ c, look Q y = some c → (look Q c.s).isSome = true → c.s ∈ chainG Q k out nm
  | 0, out, nm, hk, hn, hs, _ => by
    have := nodup_le hn hs
    rw [List.length_map] at this
    omega
  | k + 1, out, nm, hk, hn, hs, hc => by
    unfold chainG
    cases hl : look Q nm with
    | none =>
      intro y hy c hyc hcs
      rcases hc y hy c hyc hcs with h | h
      · exact h
      · rw [h, hl] at hcs; cases hcs
    | some d =>
      simp only
      by_cases hm : out.contains nm = true
      · rw [if_pos hm]
        intro y hy c hyc hcs
        rcases hc y hy c hyc hcs with h | h
        · exact h
        · rw [h]; simpa using hm
      · rw [if_neg hm]
        refine chainG_closed k (out ++ [nm]) d.s (by rw [List.length_append]; simp; omega) ?_ (fun y hy => ?_) (fun y hy c hyc hcs => ?_)
        · rw [List.nodup_append]
          refine ⟨hn, by simp, fun a ha b hb => ?_⟩
          rw [List.mem_singleton.1 hb]
          exact fun e => hm (by rw [← e]; simpa using ha)
        · rcases List.mem_append.1 hy with hy | hy
          · exact hs y hy
          · rw [List.mem_singleton.1 hy]
            exact List.mem_map.2 ⟨d, look_mem hl⟩
        · rcases List.mem_append.1 hy with hy | hy
          · rcases hc y hy c hyc hcs with h | h
            · exact .inl (List.mem_append_left _ h)
            · exact .inl (by rw [h]; simp)
          · rw [List.mem_singleton.1 hy, hl] at hyc
            cases hyc
            exact .inr rfl
theorem chain_closed {Q : List Cls} {nm : Nm} : ∀ y ∈ chain Q nm, ∀ c, look Q y = some c → (look Q c.s).isSome = true → c.s ∈ chain Q nm :=
  chainG_closed (Q.length + 1) [] nm (by simp) List.nodup_nil (by simp) (by simp)
theorem mem_chain_sup {Q : List Cls} {nm x : Nm} : x ∈ chain Q nm ↔ x ∈ sup Q nm := by
  constructor
  · intro h
    obtain ⟨m, hm, he⟩ := chain_supM Q nm
    rw [he, supG_take Q _ m nm hm] at h
    exact List.mem_of_mem_take h
  · intro h
    refine sup_within Q (· ∈ chain Q nm) (fun y c hy hc hs => chain_closed y hy c hc hs) _ nm (fun hs => ?_) x h
    obtain ⟨c, hc⟩ := Option.isSome_iff_exists.1 hs
    obtain ⟨r, hr⟩ := chain_head hc
    show nm ∈ chain Q nm
    rw [hr]
    simp

/-! ### A search -/
def dfs (kids : Nm → List Nm) : Nat → Nm → List Nm → List Nm
  | 0, _, ks => ks
  | n + 1, a, ks => (kids a).foldl (fun ks i => if ks.contains i then ks else dfs kids n i (ks ++ [i])) ks
inductive Up (kids : Nm → List Nm) : Nm → Nm → Prop
  | one {a b : Nm} : b ∈ kids a → Up kids a b
  | step {a b c : Nm} : b ∈ kids a → Up kids b c → Up kids a c
theorem Up.mono {k1 k2 : Nm → List Nm} (h : ∀ a x, x ∈ k1 a → x ∈ k2 a) {a b : Nm} (hu : Up k1 a b) : Up k2 a b := by
  induction hu with
  | one h1 => exact .one (h _ _ h1)
  | step h1 _ ih => exact .step (h _ _ h1) ih
theorem left_app {U ks : List Nm} {i : Nm} (hi : i ∈ U) (hk : ks.contains i = false) : left_ U (ks ++ [i]) < left_ U ks := by
  unfold left_
  induction U with
  | nil => cases hi
  | cons u r ih =>
    have hle : ∀ r : List Nm, (r.filter fun x => !(ks ++ [i]).contains x).length ≤ (r.filter fun x => !ks.contains x).length := by
      intro r
      induction r with
      | nil => simp
      | cons y r ih =>
        simp only [List.filter_cons]
        cases h1 : ks.contains y <;> cases h2 : (ks ++ [i]).contains y
        · simpa [h1, h2] using ih
        · simp only [Bool.not_true, Bool.not_false, if_true, Bool.false_eq_true, if_false, List.length_cons]; omega
        · simp only [List.contains_eq_mem, decide_eq_true_eq, decide_eq_false_iff_not, List.mem_append, not_or] at h1 h2; exact absurd h1 h2.1
        · simpa [h1, h2] using ih
    simp only [List.filter_cons]
    by_cases hu : u = i
    · subst hu
      have h2 : (ks ++ [u]).contains u = true := by simp
      rw [h2, hk]
      have := hle r
      simp only [Bool.not_true, Bool.not_false, if_true, Bool.false_eq_true, if_false, List.length_cons]
      omega
    · have ih := ih (by rcases List.mem_cons.1 hi with h | h; exact absurd h.symm hu; exact h)
      have h2 : (ks ++ [i]).contains u = ks.contains u := by
        rw [Bool.eq_iff_iff]
        simp [hu]
      rw [h2]
      cases ks.contains u
      · simp only [Bool.not_false, if_true, List.length_cons]; omega
      · simpa using ih
theorem left_mono {U ks l : List Nm} (h : ∀ x ∈ ks, x ∈ l) : left_ U l ≤ left_ U ks := by
  unfold left_
  induction U with
  | nil => simp
  | cons u r ih =>
    simp only [List.filter_cons]
    cases h1 : ks.contains u <;> cases h2 : l.contains u
    · simpa [h1, h2] using ih
    · simp only [Bool.not_true, Bool.not_false, if_true, Bool.false_eq_true, if_false, List.length_cons]; omega
    · simp only [List.contains_eq_mem, decide_eq_true_eq, decide_eq_false_iff_not] at h1 h2; exact absurd (h u h1) h2
    · simpa [h1, h2] using ih
theorem dfs_mono (kids : Nm → List Nm) : ∀ (n : Nat) (a : Nm) (ks : List Nm), ∀ x ∈ ks, x ∈ dfs kids n a ks
  | 0, _, _, _, h => h
  | n + 1, a, ks, x, h => by
    rw [dfs]
    generalize kids a = l
    induction l generalizing ks with
    | nil => exact h
    | cons i r ih =>
      rw [List.foldl_cons]
      refine ih _ ?_
      split
      · exact h
      · exact dfs_mono kids n i _ x (List.mem_append_left _ h)
theorem dfs_sound (kids : Nm → List Nm) : ∀ (n : Nat) (a : Nm) (ks : List Nm), ∀ x ∈ dfs kids n a ks, x ∈ ks ∨ Up kids a x
  | 0, _, _, _, h => .inl h
  | n + 1, a, ks, x, h => by
    rw [dfs] at h
    have : ∀ l : List Nm, (∀ i ∈ l, i ∈ kids a) → ∀ ks : List Nm, x ∈ l.foldl (fun ks i => if ks.contains i then ks else dfs kids n i (ks ++ [i])) ks → x ∈ ks ∨ Up kids a x := by
      intro l
      induction l with
      | nil => exact fun _ ks h => .inl h
      | cons i r ih =>
        intro hl ks h
        rw [List.foldl_cons] at h
        rcases ih (fun j hj => hl j (List.mem_cons_of_mem _ hj)) _ h with h | h
        · split at h
          · exact .inl h
          · rcases dfs_sound kids n i _ x h with h | h
            · rcases List.mem_append.1 h with h | h
              · exact .inl h
              · rw [List.mem_singleton.1 h]; exact .inr (.one (hl i (by simp)))
            · exact .inr (.step (hl i (by simp)) h)
        · exact .inr h
    exact this (kids a) (fun i hi => hi) ks h
theorem dfs_full (kids : Nm → List Nm) (U : List Nm) (hU : ∀ a, ∀ b ∈ kids a, b ∈ U) : ∀ (n : Nat) (a : Nm) (ks : List Nm), left_ U ks < n →
    (∀ b ∈ kids a, b ∈ dfs kids n a ks) ∧ ∀ x ∈ dfs kids n a ks, x ∉ ks → ∀ b ∈ kids x, b ∈ dfs kids n a ks
  | 0, _, _, h => by omega
  | n + 1, a, ks, h => by
    rw [dfs]
    have : ∀ l : List Nm, (∀ i ∈ l, i ∈ U) → ∀ ks : List Nm, left_ U ks ≤ n →
        (∀ x ∈ ks, x ∈ l.foldl (fun ks i => if ks.contains i then ks else dfs kids n i (ks ++ [i])) ks) ∧
        (∀ b ∈ l, b ∈ l.foldl (fun ks i => if ks.contains i then ks else dfs kids n i (ks ++ [i])) ks) ∧
        ∀ x ∈ l.foldl (fun ks i => if ks.contains i then ks else dfs kids n i (ks ++ [i])) ks, x ∉ ks → ∀ b ∈ kids x, b ∈ l.foldl (fun ks i => if ks.contains i then ks else dfs kids n i (ks ++ [i])) ks := by
      intro l
      induction l with
      | nil => exact fun _ ks _ => ⟨fun x hx => hx, fun b hb => (by cases hb), fun x hx hn => absurd hx hn⟩
      | cons i r ih =>
        intro hl ks hk
        rw [List.foldl_cons]
        by_cases hi : ks.contains i = true
        · rw [if_pos hi]
          obtain ⟨h1, h2, h3⟩ := ih (fun j hj => hl j (List.mem_cons_of_mem _ hj)) ks hk
          refine ⟨h1, fun b hb => ?_, h3⟩
          rcases List.mem_cons.1 hb with rfl | hb
          · exact h1 b (by simpa using hi)
          · exact h2 b hb
        · rw [if_neg hi]
          have hi' : ks.contains i = false := by simpa using hi
          have hlt := left_app (U := U) (hl i (by simp)) hi'
          have g1 := dfs_mono kids n i (ks ++ [i])
          obtain ⟨g2, g3⟩ := dfs_full kids U hU n i (ks ++ [i]) (by omega)
          obtain ⟨h1, h2, h3⟩ := ih (fun j hj => hl j (List.mem_cons_of_mem _ hj)) (dfs kids n i (ks ++ [i])) (by have := left_mono (U := U) g1; omega)
          refine ⟨fun x hx => h1 x (g1 x (List.mem_append_left _ hx)), fun b hb => ?_, fun x hx hn b hb => ?_⟩
          · rcases List.mem_cons.1 hb with rfl | hb
            · exact h1 b (g1 b (by simp))
            · exact h2 b hb
          · by_cases hx1 : x ∈ dfs kids n i (ks ++ [i])
            · by_cases hxi : x = i
              · subst hxi
                exact h1 b (g2 b hb)
              · exact h1 b (g3 x hx1 (by simp [hn, hxi]) b hb)
            · exact h3 x hx hx1 b hb
    obtain ⟨_, h2, h3⟩ := this (kids a) (hU a) ks (by omega)
    exact ⟨h2, h3⟩
theorem dfs_nodup (kids : Nm → List Nm) : ∀ (n : Nat) (a : Nm) (ks : List Nm), ks.Nodup → (dfs kids n a ks).Nodup
  | 0, _, _, h => h
  | n + 1, a, ks, h => by
    rw [dfs]
    generalize kids a = l
    induction l generalizing ks with
    | nil => exact h
    | cons i r ih =>
      rw [List.foldl_cons]
      refine ih _ ?_
      split
      · exact h
      · rename_i hc
        refine dfs_nodup kids n i _ ?_
        rw [List.nodup_append]
        refine ⟨h, by simp, fun a ha b hb => ?_⟩
        rw [List.mem_singleton.1 hb]
        exact fun e => hc (by rw [← e]; simpa using ha)
theorem dfs_iff (kids : Nm → List Nm) (U : List Nm) (hU : ∀ a, ∀ b ∈ kids a, b ∈ U) {n : Nat} (hn : U.length < n) (a x : Nm) : x ∈ dfs kids n a [] ↔ Up kids a x := by
  constructor
  · intro h
    rcases dfs_sound kids n a [] x h with h | h
    · cases h
    · exact h
  · intro h
    have hl : left_ U [] < n := by
      unfold left_
      have := List.length_filter_le (fun x => !([] : List Nm).contains x) U
      omega
    obtain ⟨h1, h2⟩ := dfs_full kids U hU n a [] hl
    have : ∀ b c, Up kids b c → (∀ d ∈ kids b, d ∈ dfs kids n a []) → c ∈ dfs kids n a [] := by
      intro b c hb
      induction hb with
      | one h => exact fun hd => hd _ h
      | step h _ ih => exact fun hd => ih (h2 _ (hd _ h) (by simp))
    exact this a x h h1

/-! ### Interfaces -/
/-- What is directly under one. -/
def kidsC (Q : List Cls) (a : Nm) : List Nm := (chain Q a).flatMap (imps Q)
def kidsU (Q : List Cls) (a : Nm) : List Nm := (sup Q a).flatMap (imps Q)
theorem mem_kids {Q : List Cls} {a x : Nm} : x ∈ kidsC Q a ↔ x ∈ kidsU Q a := by
  unfold kidsC kidsU
  simp only [List.mem_flatMap, mem_chain_sup]
/-- The document's way through the interfaces. -/
def underN (Q : List Cls) : Nat → Nm → List Nm → List Nm
  | 0, _, ks => ks
  | n + 1, nm, ks => (sup Q nm).foldl (fun ks s => (imps Q s).foldl (fun ks i => if ks.contains i then ks else underN Q n i (ks ++ [i])) ks) ks
theorem foldl_flat {α β γ : Type} (f : γ → β → γ) (g : α → List β) : ∀ (l : List α) (x : γ), l.foldl (fun x a => (g a).foldl f x) x = (l.flatMap g).foldl f x
  | [], _ => rfl
  | a :: r, x => by rw [List.foldl_cons, List.flatMap_cons, List.foldl_append, foldl_flat f g r]
theorem spreadN_dfs (Q : List Cls) : ∀ (n : Nat) (a : Nm) (ks : List Nm), spreadN Q n a ks = dfs (kidsC Q) n a ks
  | 0, _, _ => rfl
  | n + 1, a, ks => by
    rw [spreadN, dfs, foldl_flat]
    unfold kidsC
    congr 1
    funext ks i
    split
    · rfl
    · exact spreadN_dfs Q n i _
theorem underN_dfs (Q : List Cls) : ∀ (n : Nat) (a : Nm) (ks : List Nm), underN Q n a ks = dfs (kidsU Q) n a ks
  | 0, _, _ => rfl
  | n + 1, a, ks => by
    rw [underN, dfs, foldl_flat]
    unfold kidsU
    congr 1
    funext ks i
    split
    · rfl
    · exact underN_dfs Q n i _
theorem spread_up (Q : List Cls) (a x : Nm) : x ∈ spreadN Q (fuelS Q) a [] ↔ Up (kidsC Q) a x := by
  rw [spreadN_dfs]
  refine dfs_iff (kidsC Q) (univ Q) (fun a b hb => ?_) (by unfold fuelS; omega) a x
  obtain ⟨s, _, h⟩ := List.mem_flatMap.1 hb
  exact imps_univ h
/-- Interfaces that are named are there. -/
def ImOk (Q : List Cls) : Prop := ∀ a x, x ∈ imps Q a → (look Q x).isSome = true
theorem under_up {Q : List Cls} (h : ImOk Q) (a x : Nm) : x ∈ underN Q (Q.length + 1) a [] ↔ Up (kidsC Q) a x := by
  rw [underN_dfs, dfs_iff (kidsU Q) (Q.map (·.n)) (fun a b hb => ?_) (by simp) a x]
  · exact ⟨Up.mono fun a x => mem_kids.2, Up.mono fun a x => mem_kids.1⟩
  · obtain ⟨s, _, hs⟩ := List.mem_flatMap.1 hb
    obtain ⟨c, hc⟩ := Option.isSome_iff_exists.1 (h s b hs)
    exact List.mem_map.2 ⟨c, look_mem hc⟩
theorem under_spread {Q : List Cls} (h : ImOk Q) (a x : Nm) : x ∈ underN Q (Q.length + 1) a [] ↔ x ∈ spreadN Q (fuelS Q) a [] := by rw [under_up h, spread_up]
theorem under_nodup (Q : List Cls) (n : Nat) (a : Nm) : (underN Q n a []).Nodup := by rw [underN_dfs]; exact dfs_nodup _ _ _ _ List.nodup_nil
theorem spreadN_nodup (Q : List Cls) (n : Nat) (a : Nm) : (spreadN Q n a []).Nodup := by rw [spreadN_dfs]; exact dfs_nodup _ _ _ _ List.nodup_nil
/-- What the document's Interfaces sorts. -/
def rIfcs (Q : List Cls) (nm : Nm) : List Nm := if ((look Q nm).getD Cls.zero).i then underN Q (Q.length + 1) nm [] ++ [nm] else underN Q (Q.length + 1) nm []
theorem mem_rIfcs {Q : List Cls} (h : ImOk Q) (nm x : Nm) : x ∈ rIfcs Q nm ↔ x ∈ ifcs Q nm := by
  rw [ifcs_N]
  unfold rIfcs ifcsN
  by_cases hi : ((look Q nm).getD Cls.zero).i = true
  · rw [if_pos hi, if_pos hi]
    by_cases hc : (spreadN Q (fuelS Q) nm []).contains nm = true
    · rw [if_pos hc, List.mem_append, under_spread h, List.mem_singleton]
      exact ⟨fun h => h.elim id fun h => by rw [h]; simpa using hc, .inl⟩
    · rw [if_neg hc, List.mem_append, List.mem_append, under_spread h]
  · rw [if_neg hi, if_neg hi, under_spread h]
theorem ifcs_nodup (Q : List Cls) (nm : Nm) : (ifcs Q nm).Nodup := by
  rw [ifcs_N]
  unfold ifcsN
  have h := spreadN_nodup Q (fuelS Q) nm
  split
  · split
    · exact h
    · rename_i hc
      rw [List.nodup_append]
      refine ⟨h, by simp, fun a ha b hb => ?_⟩
      rw [List.mem_singleton.1 hb]
      exact fun e => hc (by subst e; simpa using ha)
  · exact h
end Go.Proofs.YtpajgenngpjbaaaGreat.Ev

/- The document's rules in plain Lean: they fell what the program's fell. -/
namespace Go.Proofs.YtpajgenngpjbaaaGreat.Ev
open Go

theorem badG_congr {P P' : Cls → Bool} : ∀ {l : List Cls}, (∀ c ∈ l, P c = P' c) → badG P l = badG P' l
  | [], _ => rfl
  | c :: r, h => by
    rw [badG, badG, h c (by simp), badG_congr fun c hc => h c (List.mem_cons_of_mem _ hc)]

/-! Rule 0. -/
def cnt (Q : List Cls) (nm : Nm) : Nat := (Q.filter fun x => x.n == nm).length
def rul0 (Q : List Cls) (c : Cls) : Bool := decide (cnt Q c.n = 1)
theorem cnt_none {Q : List Cls} {nm : Nm} : cnt Q nm = 0 ↔ (Q.any fun x => x.n == nm) = false := by
  unfold cnt
  induction Q with
  | nil => simp
  | cons c r ih =>
    rw [List.filter_cons, List.any_cons]
    cases c.n == nm
    · simp
    · simp
theorem cnt_app (Q R : List Cls) (nm : Nm) : cnt (Q ++ R) nm = cnt Q nm + cnt R nm := by simp [cnt]
theorem cnt_cons (c : Cls) (R : List Cls) : cnt (c :: R) c.n = 1 + cnt R c.n := by simp [cnt]; omega
theorem rul0_dbl : ∀ (r pre : List Cls), (∀ x ∈ r, (pre.any fun p => p.n == x.n) = false) → badG (rul0 (builtins ++ (pre ++ r))) r = dblG r
  | [], _, _ => rfl
  | c :: r, pre, h => by
    have h1 := h c (by simp)
    have h2 : cnt (builtins ++ (pre ++ c :: r)) c.n = cnt builtins c.n + (1 + cnt r c.n) := by
      rw [cnt_app, cnt_app, cnt_cons, cnt_none.2 h1]; omega
    rw [badG, dblG]
    unfold rul0 dbl1
    cases hb : builtins.any fun x => x.n == c.n with
    | true =>
      have : ¬ cnt builtins c.n = 0 := fun h => by rw [cnt_none.1 h] at hb; cases hb
      rw [decide_eq_false (by omega)]
      simp
    | false =>
      rw [cnt_none.2 hb] at h2
      cases hr : r.any fun x => x.n == c.n with
      | true =>
        have : ¬ cnt r c.n = 0 := fun h => by rw [cnt_none.1 h] at hr; cases hr
        rw [decide_eq_false (by omega)]
        simp
      | false =>
        rw [cnt_none.2 hr] at h2
        rw [decide_eq_true (by omega)]
        simp only [if_true, Bool.or_self, Bool.false_eq_true, if_false]
        have := rul0_dbl r (pre ++ [c]) (fun x hx => by
          rw [List.any_append, h x (List.mem_cons_of_mem _ hx)]
          have := List.any_eq_false.1 hr x hx
          simp only [beq_iff_eq] at this
          simp only [List.any_cons, List.any_nil, Bool.or_false, Bool.false_or, beq_eq_false_iff_ne]
          exact fun e => this e.symm)
        rw [List.append_assoc] at this
        exact this

/-! Rule 1. -/
def rul1 (Q : List Cls) (c : Cls) : Bool := c.s != [] && ((look Q c.s).isSome && (!((look Q c.s).getD Cls.zero).i && (c.s != sSys && (!c.i || c.s == sObject))))
theorem rul1_eq {Q : List Cls} (h : look Q [] = none) (c : Cls) : rul1 Q c = superP Q c := by
  unfold rul1 superP
  cases hl : look Q c.s with
  | none => simp
  | some s =>
    have hs := (look_mem hl).2
    have hne : (c.s != []) = true := by
      simp only [bne_iff_ne]
      intro e
      rw [e, h] at hl
      cases hl
    simp [hne, hs]

/-! Rule 3. -/
def comesP (Q : List Cls) (nm : Nm) : Bool := (imps Q nm).any fun i => i == nm || (underN Q (Q.length + 1) i []).contains nm
def rul3 (Q : List Cls) (c : Cls) : Bool := !((sup Q c.s).contains c.n) && (!c.i || !comesP Q c.n)
theorem contains_congr {l m : List Nm} (h : ∀ x, x ∈ l ↔ x ∈ m) (x : Nm) : l.contains x = m.contains x := by
  rw [Bool.eq_iff_iff, List.contains_iff_mem, List.contains_iff_mem]
  exact h x
theorem rul3_eq {Q : List Cls} (hI : ImOk Q) {c o : Cls} (hc : look Q c.n = some c) (hs : c.i = true → c.s = sObject) (ho : look Q sObject = some o) (ho1 : look Q o.s = none) (ho2 : o.im = []) : rul3 Q c = straightQ Q c := by
  unfold rul3 straightQ
  rw [contains_congr (fun x => mem_chain_sup (Q := Q) (nm := c.s) (x := x)) c.n]
  cases hi : c.i with
  | false => rfl
  | true =>
    simp only [Bool.not_true, Bool.false_or]
    congr 2
    rw [Bool.eq_iff_iff, List.contains_iff_mem, spread_up]
    unfold comesP
    rw [List.any_eq_true]
    have hk : ∀ x, x ∈ kidsC Q c.n ↔ x ∈ imps Q c.n := by
      intro x
      unfold kidsC
      rw [List.mem_flatMap]
      constructor
      · rintro ⟨s, h1, h2⟩
        have := sup_within Q (fun y => y = c.n ∨ y = sObject) (fun y d hy hd hsd => by
          rcases hy with rfl | rfl
          · rw [hc] at hd; cases hd; exact .inr (hs hi)
          · rw [ho] at hd; cases hd; rw [ho1] at hsd; cases hsd) Q.length c.n (fun _ => .inl rfl) s (mem_chain_sup.1 h1)
        rcases this with rfl | rfl
        · exact h2
        · unfold imps at h2; rw [ho] at h2; simp only [Option.getD_some, ho2] at h2; cases h2
      · intro h
        obtain ⟨r, hr⟩ := chain_head hc
        exact ⟨c.n, by rw [hr]; simp, h⟩
    constructor
    · rintro ⟨i, h1, h2⟩
      rw [Bool.or_eq_true, beq_iff_eq, List.contains_iff_mem, under_up hI] at h2
      rcases h2 with rfl | h2
      · exact .one ((hk _).2 h1)
      · exact .step ((hk _).2 h1) h2
    · intro h
      cases h with
      | one h => exact ⟨c.n, (hk _).1 h, by simp⟩
      | step h1 h2 => 
        refine ⟨_, (hk _).1 h1, ?_⟩
        rw [Bool.or_eq_true, List.contains_iff_mem, under_up hI]
        exact .inr h2

/-! Rule 7. -/
def dispP (Q : List Cls) (cls nm d : Nm) : Bool := (sup Q cls).any fun s => hasM nm d ((look Q s).getD Cls.zero)
def rwM (Q : List Cls) (cn : Nm) (m : Mth) : Bool := !(m.a && !dispP Q cn m.n m.d)
def rw1 (Q : List Cls) (cn s : Nm) : Bool := ((look Q s).getD Cls.zero).ms.all (rwM Q cn)
theorem find_any {α : Type} (p : α → Bool) : ∀ l : List α, (l.find? p).isSome = l.any p
  | [] => rfl
  | a :: r => by
    rw [List.find?_cons, List.any_cons]
    cases p a
    · simpa using find_any p r
    · rfl
theorem any_congr {l m : List Nm} (h : ∀ x, x ∈ l ↔ x ∈ m) (p : Nm → Bool) : l.any p = m.any p := by
  rw [Bool.eq_iff_iff, List.any_eq_true, List.any_eq_true]
  exact ⟨fun ⟨x, h1, h2⟩ => ⟨x, (h x).1 h1, h2⟩, fun ⟨x, h1, h2⟩ => ⟨x, (h x).2 h1, h2⟩⟩
theorem all_congr {l m : List Nm} (h : ∀ x, x ∈ l ↔ x ∈ m) (p : Nm → Bool) : l.all p = m.all p := by
  rw [Bool.eq_iff_iff, List.all_eq_true, List.all_eq_true]
  exact ⟨fun h1 x hx => h1 x ((h x).2 hx), fun h1 x hx => h1 x ((h x).1 hx)⟩
theorem dispP_eq (Q : List Cls) (cls nm d : Nm) : dispP Q cls nm d = (hasP Q cls nm d).isSome := by
  unfold dispP hasP
  rw [find_any]
  exact any_congr (fun x => mem_chain_sup.symm) _
/-- What the document looks at, with what a sorting leaves. -/
def rul7 (Q : List Cls) (srt : List Nm → List Nm) (c : Cls) : Bool := c.a || (sup Q c.n ++ srt (rIfcs Q c.n)).all (rw1 Q c.n)
theorem rul7_eq {Q : List Cls} (hI : ImOk Q) {srt : List Nm → List Nm} (hsrt : ∀ l x, x ∈ srt l ↔ x ∈ l) (c : Cls) : rul7 Q srt c = doneQ Q c := by
  unfold rul7 doneQ
  congr 1
  have h1 : rw1 Q c.n = done1 Q c.n := by
    funext s
    unfold rw1 done1
    congr 1
    funext m
    unfold rwM doneM
    rw [dispP_eq]
  rw [h1]
  refine all_congr (fun x => ?_) _
  rw [List.mem_append, List.mem_append, hsrt, mem_rIfcs hI, ifcs_N, mem_chain_sup]

/-! All of it. -/
def rulesK (Q : List Cls) (srt : List Nm → List Nm) : List (Cls → Bool) := [rul0 Q, rul1 Q, implP Q, rul3 Q, apartP, faceP, wholeP, rul7 Q srt]
/-- What the document's Link answers. -/
def linkF (srt : List Nm → List Nm) (l : List Cls) : Option (Int × Nm) :=
  if 30 < l.length then some (5, []) else match errG l with
  | some p => some p
  | none => (rulesE (rulesK (builtins ++ l) srt) l).map fun n => (8, n)
theorem err_name {c : Cls} (h : c.err = 0) : c.n ≠ [] := by
  intro he
  unfold Cls.err at h
  rw [he] at h
  have h3 : nameOk [] = false := by kernel_rfl
  rw [h3] at h
  simp at h
theorem look_empty {l : List Cls} (h : errG l = none) : look (builtins ++ l) [] = none := by
  refine look_none fun hm => ?_
  obtain ⟨c, hc, he⟩ := List.mem_map.1 hm
  rcases List.mem_append.1 hc with h1 | h1
  · have : ∀ b ∈ builtins, b.n ≠ [] := by decide
    exact this c h1 he
  · exact err_name (errG_none.1 h c h1) he
theorem look_obj (l : List Cls) : look (builtins ++ l) sObject = some (builtins.getD 0 Cls.zero) := rfl
theorem imOk_of {l : List Cls} (h : ∀ c ∈ l, implP (builtins ++ l) c = true) : ImOk (builtins ++ l) := by
  intro a x hx
  obtain ⟨c, hc, hxc⟩ := List.mem_flatMap.1 (imps_univ hx)
  rcases List.mem_append.1 hc with h1 | h1
  · have : ∀ c ∈ builtins, c.im = [] := by decide
    rw [this c h1] at hxc; cases hxc
  · obtain ⟨i, hi, rfl⟩ := List.getElem_of_mem hxc
    have := h c h1
    unfold implP at this
    have h2 := of_decide_eq_true this i hi
    unfold implP1 at h2
    rw [List.getD_eq_getElem?_getD, List.getElem?_eq_getElem hi, Option.getD_some] at h2
    exact (Bool.and_eq_true _ _ ▸ h2).1
theorem rulesE_cons (P : Cls → Bool) (r : List (Cls → Bool)) (l : List Cls) : rulesE (P :: r) l = (match badG P l with | some n => some n | none => rulesE r l) := rfl
theorem rulesE_step {P P' : Cls → Bool} {r r' : List (Cls → Bool)} {l : List Cls} (h : badG P l = badG P' l) (h2 : badG P' l = none → rulesE r l = rulesE r' l) : rulesE (P :: r) l = rulesE (P' :: r') l := by
  rw [rulesE_cons, rulesE_cons, h]
  cases hb : badG P' l with
  | some n => rfl
  | none => exact h2 hb
theorem linkF_eq {srt : List Nm → List Nm} (hsrt : ∀ l x, x ∈ srt l ↔ x ∈ l) (l : List Cls) : linkF srt l = classesF l := by
  unfold linkF classesF
  split
  · rfl
  · cases he : errG l with
    | some p => rfl
    | none =>
      simp only
      have h0 := rul0_dbl l [] (fun x _ => rfl)
      rw [List.nil_append] at h0
      unfold rulesK
      rw [rulesE_cons, h0]
      cases hd : dblG l with
      | some n => rfl
      | none =>
        simp only
        have hn := all_nodup hd
        have hlk : ∀ c ∈ l, look (builtins ++ l) c.n = some c := fun c hc => look_some hn (List.mem_append_right _ hc)
        refine congrArg _ ?_
        unfold rulesQ
        refine rulesE_step (badG_congr fun c _ => rul1_eq (look_empty he) c) fun h1 => rulesE_step rfl fun h2 => ?_
        have hI := imOk_of (badG_none.1 h2)
        refine rulesE_step (badG_congr fun c hc => rul3_eq hI (hlk c hc) (fun hi => ?_) (look_obj l) (look_empty he) rfl) fun _ => rulesE_step rfl fun _ => rulesE_step rfl fun _ => rulesE_step rfl fun _ => rulesE_step (badG_congr fun c _ => rul7_eq hI hsrt c) fun _ => rfl
        have := badG_none.1 h1 c hc
        unfold superP at this
        cases hk : look (builtins ++ l) c.s with
        | none => rw [hk] at this; cases this
        | some s =>
          rw [hk] at this
          simp only [Option.isSome_some, Option.getD_some, hi, Bool.not_true, Bool.false_or, Bool.true_and, Bool.and_eq_true, beq_iff_eq] at this
          rw [← (look_mem hk).2]
          exact this.2.2
end Go.Proofs.YtpajgenngpjbaaaGreat.Ev

import Derived.Test.YtpajgenngpjbaaaGreatDoorKzs
import Derived.Test.YtpajgenngpjbaaaGreatDoorGh
/- Chains of supers: where they begin and end. -/
namespace Go.Proofs.YtpajgenngpjbaaaGreatDoor.Ev
open Go

theorem chainG_pre (S : List Cls) : ∀ (k : Nat) (out : List Nm) (nm : Nm), ∃ r, chainG S k out nm = out ++ r
  | 0, out, nm => ⟨[], by rw [chainG, List.append_nil]⟩
  | k + 1, out, nm => by
    unfold chainG
    cases look S nm with
    | none => exact ⟨[], by simp⟩
    | some c =>
      simp only
      split
      · exact ⟨[], by simp⟩
      · obtain ⟨r, hr⟩ := chainG_pre S k (out ++ [nm]) c.s
        exact ⟨nm :: r, by rw [hr]; simp⟩
theorem chain_head {S : List Cls} {n : Nm} {c : Cls} (h : look S n = some c) : ∃ r, chain S n = n :: r := by
  unfold chain chainG
  rw [h]
  simp only [List.contains_nil, Bool.false_eq_true, if_false, List.nil_append]
  obtain ⟨r, hr⟩ := chainG_pre S S.length [n] c.s
  exact ⟨r, hr⟩
/-- How it stood, as place i was filled. -/
theorem chainG_at (S : List Cls) : ∀ (k : Nat) (out : List Nm) (nm : Nm) (i : Nat) (x : Nm), out.length ≤ i → (chainG S k out nm)[i]? = some x → ∃ k', k' ≤ k ∧ chainG S k out nm = chainG S k' ((chainG S k out nm).take i) x
  | 0, out, nm, i, x, hi, hx => by
    rw [chainG, List.getElem?_eq_none hi] at hx
    cases hx
  | k + 1, out, nm, i, x, hi, hx => by
    by_cases h0 : out.length = i
    · obtain ⟨r, hr⟩ := chainG_pre S (k + 1) out nm
      have hx2 := hx
      rw [hr] at hx2
      rw [List.getElem?_append_right (by omega), h0, Nat.sub_self] at hx2
      have htk : (chainG S (k + 1) out nm).take i = out := by rw [hr, ← h0]; simp
      rw [htk]
      have hnx : nm = x := by
        unfold chainG at hx
        cases hl : look S nm with
        | none => rw [hl] at hx; simp only at hx; rw [List.getElem?_eq_none (by omega)] at hx; cases hx
        | some c =>
          rw [hl] at hx
          simp only at hx
          split at hx
          · rw [List.getElem?_eq_none (by omega)] at hx; cases hx
          · obtain ⟨r2, hr2⟩ := chainG_pre S k (out ++ [nm]) c.s
            rw [hr2, List.append_assoc, List.getElem?_append_right (by omega), h0, Nat.sub_self] at hx
            simpa using hx
      exact ⟨k + 1, Nat.le_refl _, by rw [hnx]⟩
    · cases hl : look S nm with
      | none =>
        have hu : chainG S (k + 1) out nm = out := by rw [chainG]; simp only [hl]
        rw [hu, List.getElem?_eq_none (by omega)] at hx; cases hx
      | some c =>
        by_cases hc : out.contains nm = true
        · have hu : chainG S (k + 1) out nm = out := by rw [chainG]; simp only [hl]; rw [if_pos hc]
          rw [hu, List.getElem?_eq_none (by omega)] at hx; cases hx
        · have hu : chainG S (k + 1) out nm = chainG S k (out ++ [nm]) c.s := by rw [chainG]; simp only [hl]; rw [if_neg hc]
          rw [hu] at hx ⊢
          obtain ⟨k', h1, h2⟩ := chainG_at S k (out ++ [nm]) c.s i x (by rw [List.length_append]; simp; omega) hx
          exact ⟨k', by omega, h2⟩
theorem chainG_drop (S : List Cls) : ∀ (k k' : Nat) (p q : List Nm) (nm : Nm), k ≤ k' → ∃ t, chainG S k' q nm = (chainG S k (p ++ q) nm).drop p.length ++ t
  | 0, k', p, q, nm, _ => by
    obtain ⟨r, hr⟩ := chainG_pre S k' q nm
    exact ⟨r, by rw [hr, chainG]; simp⟩
  | k + 1, k', p, q, nm, hk => by
    obtain ⟨k'', rfl⟩ : ∃ k'', k' = k'' + 1 := ⟨k' - 1, by omega⟩
    obtain ⟨r, hr⟩ := chainG_pre S (k'' + 1) q nm
    have hs : chainG S (k + 1) (p ++ q) nm = p ++ q → ∃ t, chainG S (k'' + 1) q nm = (chainG S (k + 1) (p ++ q) nm).drop p.length ++ t := fun h => ⟨r, by rw [hr, h]; simp⟩
    cases hl : look S nm with
    | none => exact hs (by unfold chainG; rw [hl])
    | some c =>
      by_cases hc : (p ++ q).contains nm = true
      · exact hs (by unfold chainG; rw [hl]; simp only; rw [if_pos hc])
      · have hq : ¬ q.contains nm = true := fun h => hc (by simp at h ⊢; exact .inr h)
        obtain ⟨t, ht⟩ := chainG_drop S k k'' p (q ++ [nm]) c.s (by omega)
        refine ⟨t, ?_⟩
        unfold chainG
        rw [hl]
        simp only
        rw [if_neg hc, if_neg hq, ht, List.append_assoc]
theorem nodup_sub_len : ∀ (l m : List Nm), l.Nodup → (∀ x ∈ l, x ∈ m) → l.length ≤ m.length
  | [], _, _, _ => Nat.zero_le _
  | a :: r, m, h1, h2 => by
    rw [List.nodup_cons] at h1
    have ha := h2 a (by simp)
    have := nodup_sub_len r (m.erase a) h1.2 fun x hx => (List.mem_erase_of_ne (show x ≠ a from fun e => h1.1 (by rw [← e]; exact hx))).2 (h2 x (by simp [hx]))
    rw [List.length_erase_of_mem ha] at this
    have := List.length_pos_of_mem ha
    rw [List.length_cons]
    omega
theorem chainG_last {S : List Cls} : ∀ (k : Nat) (out : List Nm) (nm x : Nm) (c : Cls), S.length < out.length + k → out.Nodup → (∀ y ∈ out, y ∈ S.map (·.n)) → out.getLast? = some x → look S x = some c → c.s = nm →
    ∃ x' c', (chainG S k out nm).getLast? = some x' ∧ look S x' = some c' ∧ (look S c'.s = none ∨ c'.s ∈ chainG S k out nm)
  | 0, out, nm, x, c, hk, hn, hs, _, _, _ => by
    have := nodup_sub_len out (S.map (·.n)) hn hs
    rw [List.length_map] at this
    omega
  | k + 1, out, nm, x, c, hk, hn, hs, hx, hc, hnm => by
    unfold chainG
    cases hl : look S nm with
    | none => exact ⟨x, c, hx, hc, .inl (by rw [hnm]; exact hl)⟩
    | some d =>
      simp only
      by_cases hcn : out.contains nm = true
      · rw [if_pos hcn]
        exact ⟨x, c, hx, hc, .inr (by rw [hnm]; simpa using hcn)⟩
      · rw [if_neg hcn]
        refine chainG_last k (out ++ [nm]) d.s nm d (by rw [List.length_append]; simp; omega) ?_ (fun y hy => ?_) (by simp) hl rfl
        · rw [List.nodup_append]
          refine ⟨hn, by simp, fun a ha b hb => ?_⟩
          rw [List.mem_singleton.1 hb]
          exact fun e => hcn (by rw [← e]; simpa using ha)
        · rcases List.mem_append.1 hy with hy | hy
          · exact hs y hy
          · rw [List.mem_singleton.1 hy]
            obtain ⟨h1, h2⟩ := look_mem hl
            exact List.mem_map.2 ⟨d, h1, h2⟩
/-- Without a ring, a chain ends where no super is. -/
theorem chain_end {S : List Cls} {n : Nm} {c : Cls} (h : look S n = some c) (hr : ∀ x d, look S x = some d → x ∉ chain S d.s) : ∃ x d, (chain S n).getLast? = some x ∧ look S x = some d ∧ look S d.s = none := by
  have hu : chain S n = chainG S S.length [n] c.s := by
    unfold chain
    rw [chainG]
    simp only [h, List.contains_nil, Bool.false_eq_true, if_false, List.nil_append]
  obtain ⟨x, d, h1, h2, h3⟩ := chainG_last (S := S) S.length [n] c.s n c (by simp) (by simp) (fun y hy => by rw [List.mem_singleton.1 hy]; exact List.mem_map.2 ⟨c, look_mem h⟩) (by simp) h rfl
  rw [← hu] at h1 h3
  refine ⟨x, d, h1, h2, ?_⟩
  rcases h3 with h3 | h3
  · exact h3
  · exfalso
    obtain ⟨i, hi, hix⟩ := List.getElem_of_mem h3
    have hxi : (chain S n)[i]? = some d.s := by rw [List.getElem?_eq_getElem hi, hix]
    obtain ⟨k', hk, hst⟩ := chainG_at S (S.length + 1) [] n i d.s (Nat.zero_le _) hxi
    have hst : chain S n = chainG S k' ((chain S n).take i) d.s := hst
    obtain ⟨t, ht⟩ := chainG_drop S k' (S.length + 1) ((chain S n).take i) [] d.s hk
    rw [List.append_nil, ← hst, List.length_take, Nat.min_eq_left (by omega)] at ht
    refine hr x d h2 ?_
    unfold chain at ht ⊢
    rw [ht]
    refine List.mem_append_left _ ?_
    have hl : (chain S n).drop i ≠ [] := by
      intro h0
      have := congrArg List.length h0
      rw [List.length_drop, List.length_nil] at this
      omega
    have hgl : ((chain S n).drop i).getLast? = some x := by
      rw [List.getLast?_drop, if_neg (by omega)]
      exact h1
    exact List.mem_of_getLast? hgl
end Go.Proofs.YtpajgenngpjbaaaGreatDoor.Ev

/- What stands behind LinkKin, in plain Lean. -/
namespace Go.Proofs.YtpajgenngpjbaaaGreatDoor.Ev
open Go

theorem chainG_mem {S : List Cls} : ∀ (k : Nat) (out : List Nm) (nm : Nm), (∀ y ∈ out, (look S y).isSome = true) → ∀ y ∈ chainG S k out nm, (look S y).isSome = true
  | 0, out, nm, h => by rw [chainG]; exact h
  | k + 1, out, nm, h => by
    unfold chainG
    cases hl : look S nm with
    | none => exact h
    | some c =>
      simp only
      split
      · exact h
      · refine chainG_mem k (out ++ [nm]) c.s fun y hy => ?_
        rcases List.mem_append.1 hy with hy | hy
        · exact h y hy
        · rw [List.mem_singleton.1 hy, hl]; rfl
theorem chain_mem {S : List Cls} {n y : Nm} (h : y ∈ chain S n) : (look S y).isSome = true := chainG_mem _ [] n (by simp) y h
structure Kin (S : List Cls) : Prop where
  head : ∀ n c, look S n = some c → ∃ r, chain S n = n :: r
  last : ∀ n c, look S n = some c → (chain S n).getLast? = some sObject
  faces : ∀ n a, a ∈ ifcs S n → ∃ c, look S a = some c ∧ c.i = true
theorem kin_of {l : List Cls} (h : classesE l = none) : Kin (prog l) := by
  obtain ⟨h30, herr, ⟨hnd, hnb⟩, hrules⟩ := classes_none.1 h
  have hd : dblG l = none := dblG_none.2 ⟨hnd, hnb⟩
  have hn := prog_nodup hd
  have hb : ∀ b ∈ builtins, look (prog l) b.n = some b := fun b hb => look_some hn (prog_mem.2 (.inl hb))
  have hR : ∀ c ∈ l, superP (prog l) c = true ∧ implP (prog l) c = true ∧ straightP (prog l) c = true := fun c hc => by
    unfold rulesR at hrules
    exact ⟨hrules (superP (prog l)) (by simp) c hc, hrules (implP (prog l)) (by simp) c hc, hrules (straightP (prog l)) (by simp) c hc⟩
  have hempty : look (prog l) [] = none := by
    refine look_none fun hm => ?_
    obtain ⟨c, hc, he⟩ := List.mem_map.1 hm
    rcases prog_mem.1 hc with h1 | h1
    · have : ∀ b ∈ builtins, b.n ≠ [] := by decide
      exact this c h1 he
    · have h2 := herr c h1
      unfold Cls.err at h2
      rw [he] at h2
      have h3 : nameOk [] = false := by kernel_rfl
      rw [h3] at h2
      simp at h2
  have hO : look (prog l) sObject = some (builtins.getD 0 Cls.zero) := hb (builtins.getD 0 Cls.zero) (show builtins[0]'(by decide) ∈ builtins from List.getElem_mem _)
  have hT : look (prog l) sThrowable = some (builtins.getD 1 Cls.zero) := hb (builtins.getD 1 Cls.zero) (show builtins[1]'(by decide) ∈ builtins from List.getElem_mem _)
  have hlen := prog_len l
  have c0 : chain (prog l) [] = [] := by unfold chain; rw [chainG]; simp only [hempty]
  have cO : chain (prog l) sObject = [sObject] := by
    unfold chain
    obtain ⟨k, hk⟩ : ∃ k, (prog l).length = k + 1 := ⟨11 + l.length, by omega⟩
    rw [hk, chainG]
    simp only [hO]
    rw [if_neg (by decide), chainG]
    have : (builtins.getD 0 Cls.zero).s = [] := rfl
    simp only [this, hempty]
    rfl
  have cT : chain (prog l) sThrowable = [sThrowable, sObject] := by
    unfold chain
    obtain ⟨k, hk⟩ : ∃ k, (prog l).length = k + 1 + 1 := ⟨10 + l.length, by omega⟩
    rw [hk, chainG]
    simp only [hT]
    rw [if_neg (by decide), chainG]
    have e1 : (builtins.getD 1 Cls.zero).s = sObject := rfl
    simp only [e1, hO]
    rw [if_neg (by decide), chainG]
    have : (builtins.getD 0 Cls.zero).s = [] := rfl
    simp only [this, hempty]
    rfl
  have hbs : ∀ b ∈ builtins, (b.s = [] ∧ b.n = sObject) ∨ (b.s = sObject ∧ b.n ∉ [sObject]) ∨ (b.s = sThrowable ∧ b.n ∉ [sThrowable, sObject]) := by decide
  have hring : ∀ x d, look (prog l) x = some d → x ∉ chain (prog l) d.s := fun x d hx => by
    obtain ⟨hm, rfl⟩ := look_mem hx
    rcases prog_mem.1 hm with h1 | h1
    · rcases hbs d h1 with ⟨e, _⟩ | ⟨e, e2⟩ | ⟨e, e2⟩
      · rw [e, c0]; simp
      · rw [e, cO]; exact e2
      · rw [e, cT]; exact e2
    · have := (hR d h1).2.2
      unfold straightP at this
      simp only [Bool.and_eq_true, Bool.not_eq_true', List.contains_eq_mem, decide_eq_false_iff_not] at this
      exact this.1
  refine ⟨fun n c hc => chain_head hc, fun n c hc => ?_, fun n a ha => ?_⟩
  · obtain ⟨x, d, h1, h2, h3⟩ := chain_end hc hring
    rw [h1]
    obtain ⟨hm, rfl⟩ := look_mem h2
    rcases prog_mem.1 hm with h4 | h4
    · rcases hbs d h4 with ⟨_, e⟩ | ⟨e, _⟩ | ⟨e, _⟩
      · rw [e]
      · rw [e, hO] at h3; cases h3
      · rw [e, hT] at h3; cases h3
    · have := (hR d h4).1
      unfold superP at this
      rw [h3] at this
      cases this
  · have hface : ∀ x ∈ univ (prog l), ∃ c, look (prog l) x = some c ∧ c.i = true := fun x hx => by
      obtain ⟨c, hc, hxc⟩ := List.mem_flatMap.1 hx
      rcases prog_mem.1 hc with h1 | h1
      · have : ∀ c ∈ builtins, c.im = [] := by decide
        rw [this c h1] at hxc; cases hxc
      · obtain ⟨i, hi, rfl⟩ := List.getElem_of_mem hxc
        have := (hR c h1).2.1
        unfold implP at this
        have h2 := of_decide_eq_true this i hi
        unfold implP1 at h2
        rw [List.getD_eq_getElem?_getD, List.getElem?_eq_getElem hi, Option.getD_some] at h2
        cases hk : look (prog l) c.im[i] with
        | none => rw [hk] at h2; cases h2
        | some d => rw [hk] at h2; simp only [Bool.and_eq_true, Option.getD_some] at h2; exact ⟨d, rfl, h2.2.1⟩
    have h1 := spreadG_fine (prog l) (fuelS (prog l)) n [] List.nodup_nil (by simp)
    unfold ifcs at ha
    dsimp only at ha
    split at ha
    · rename_i hi
      have hself : ∃ c, look (prog l) n = some c ∧ c.i = true := by
        cases hk : look (prog l) n with
        | none => rw [hk] at hi; cases hi
        | some c => rw [hk] at hi; exact ⟨c, rfl, hi⟩
      split at ha
      · exact hface a (h1.2 a ha)
      · rcases List.mem_append.1 ha with ha | ha
        · exact hface a (h1.2 a ha)
        · rw [List.mem_singleton.1 ha]; exact hself
    · exact hface a (h1.2 a ha)
end Go.Proofs.YtpajgenngpjbaaaGreatDoor.Ev

/- The law LinkKin (walk). -/
namespace Go.Proofs.YtpajgenngpjbaaaGreatDoor.Ev
open Go

def kiSt (S : List Cls) (k : Nat) (C : List Nm) (al : List Nm) (i : Nat) (M : Mem) (j : Nat) : St :=
  { env := [(3, .ptr 0 k 0), (6, .list 1 ((S.map (·.n)).map V.str) false), (7, .int .i64 i), (8, .list 1 (C.map V.str) false), (10, .list 1 (al.map V.str) false), (11, .int .i64 j)], mem := M }
end Go.Proofs.YtpajgenngpjbaaaGreatDoor.Ev

/- The law LinkKin (walk), the rest. -/
namespace Go.Proofs.YtpajgenngpjbaaaGreatDoor.Ev
open Go

def koSt (S : List Cls) (k : Nat) (M : Mem) (i : Nat) : St := { env := [(3, .ptr 0 k 0), (6, .list 1 ((S.map (·.n)).map V.str) false), (7, .int .i64 i)], mem := M }
end Go.Proofs.YtpajgenngpjbaaaGreatDoor.Ev

/- A program that is nil. -/
namespace Go.Proofs.YtpajgenngpjbaaaGreatDoor.Ev
open Go

theorem ev_find_nil (nm : Nm) (M : Mem) : ev tab prim 71 [.nilp, .str nm] M = some (findV none, M) := by
  unfold findV
  unfold Cls.v Cls.cells
  rw [ev_fn' tab prim (f := 71) rfl _ _ rfl]
  simp [Cls.zero]
theorem ev_chain_nil (nm : Nm) (M : Mem) : ev tab prim 69 [.nilp, .str nm] M = some (.list 1 [] true, M) := by
  have hf := ev_find_nil nm ([] :: M)
  unfold findV Cls.v Cls.cells at hf
  rw [ev_fn' tab prim (f := 69) rfl _ _ rfl]
  simp [Cls.zero] at hf
  simp [S69_0, K69_0, hf]
theorem ev_Supers_nil (nm : Nm) (M : Mem) : ev tab prim 30 [.nilp, .str nm] M = some (.list 1 [] true, M) := by
  have hf := ev_chain_nil nm ([] :: M)
  rw [ev_fn' tab prim (f := 30) rfl _ _ rfl]
  simp [hf]
end Go.Proofs.YtpajgenngpjbaaaGreatDoor.Ev

/- A nil program's interfaces. -/
namespace Go.Proofs.YtpajgenngpjbaaaGreatDoor.Ev
open Go
theorem ev_spread_nil (nm : Nm) (u : Nat) (M : Mem) : ev tab prim 70 [.nilp, .str nm, .mref u] M = some (.tup [], M) := by
  have hf := ev_chain_nil nm ([] :: M)
  rw [ev_fn' tab prim (f := 70) rfl _ _ rfl]
  simp [hf]
  rw [cv_loop']
  simp [L70_1]
theorem ev_Interfaces_nil' {F : Mem} {O A : Boxes} (hO : Num O) (hA : Num A) (nm : Nm) : ∃ v w, ev tab prim 31 [.nilp, .str nm] (mm F O A) = some (.list 1 [] true, mm F (O ++ [(O.length, v)]) (A ++ [(A.length, w)])) := by
  have hn := mnew_O O A hO [mapO []] F
  have hs := ev_spread_nil nm O.length (([] : Boxes) :: mm F (O ++ [(O.length, [mapO []])]) A)
  have hf := ev_find_nil nm (([] : Boxes) :: mm F (O ++ [(O.length, [mapO []])]) A)
  have hm0 : mapO [] = .mapv none [] [] := rfl
  have hgk : bget (O ++ [(O.length, [mapO []])]) O.length = some [mapO []] := hO.get _
  have hk := ev_Keys ([] :: F) (O ++ [(O.length, [mapO []])]) A hA O.length
  have hS := ev_Sorted ([] :: F) (O ++ [(O.length, [mapO []])]) (A ++ [(A.length, [.mref O.length])]) A.length O.length [] [] (hA.get _) hgk (by simp) ⟨List.nodup_nil, by simp⟩
  have hst : sortT [] = [] := by simp [sortT]
  rw [hst, List.map_nil] at hS
  have c0 : ∀ O A, mm ([] :: F) O A = ([] : Boxes) :: mm F O A := fun _ _ => rfl
  unfold findV Cls.v Cls.cells at hf
  simp only [c0] at hk hS
  simp only [hm0] at hn hs hf hk hS
  simp [Cls.zero] at hf
  refine ⟨[.mapv none [] []], [.mref O.length], ?_⟩
  rw [ev_fn' tab prim (f := 31) rfl _ _ rfl]
  simp [hn, hs, hf, hk, hS]
theorem ev_Interfaces_nil {F : Mem} {O A : Boxes} (hO : Num O) (hA : Num A) (nm : Nm) : ∃ x y, ev tab prim 31 [.nilp, .str nm] (mm F O A) = some (.list 1 [] true, mm F (O ++ x) (A ++ y)) := by
  obtain ⟨v, w, h⟩ := ev_Interfaces_nil' (F := F) hO hA nm
  exact ⟨_, _, h⟩
end Go.Proofs.YtpajgenngpjbaaaGreatDoor.Ev

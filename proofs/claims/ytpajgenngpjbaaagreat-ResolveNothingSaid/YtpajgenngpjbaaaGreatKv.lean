import Derived.Test.YtpajgenngpjbaaaGreatKp
/- Classes (walk). -/
namespace Go.Proofs.YtpajgenngpjbaaaGreat.Ev
open Go

def rulesE : List (Cls → Bool) → List Cls → Option Nm
  | [], _ => none
  | P :: r, l => match badG P l with
    | some n => some n
    | none => rulesE r l
def RulesOk (k t q : Nat) (S l : List Cls) : List (Nat × (Cls → Bool)) → Prop
  | [] => True
  | p :: r => RuleOk k t q S l p.1 p.2 ∧ RulesOk k t q S l r
theorem rulesOk_at {k t q : Nat} {S l : List Cls} : ∀ {R : List (Nat × (Cls → Bool))}, RulesOk k t q S l R → ∀ {j : Nat} (hj : j < R.length), RuleOk k t q S l R[j].1 R[j].2
  | p :: r, h, 0, _ => h.1
  | p :: r, h, j + 1, hj => rulesOk_at h.2 (by simpa using hj)
def fnsV (R : List (Nat × (Cls → Bool))) : List V := R.map fun p => V.func (.func p.1) [] []
def roSt (l : List Cls) (k : Nat) (fs : List V) (M : Mem) (j : Nat) : St :=
  { env := [(0, .list 7 (l.map Cls.v) false), (2, .ptr 0 k 0), (3, .int .i64 8), (83, .list 1 fs true), (84, .int .i64 fs.length), (85, .int .i64 j)], mem := M }
theorem ro_loop (l : List Cls) (hl : l.length ≤ 1000) (k t q : Nat) (S : List Cls) (R : List (Nat × (Cls → Bool))) (hR : RulesOk k t q S l R) (hRl : R.length ≤ 100) (F : Mem) : ∀ (m j : Nat) (O A : Boxes), j + m = R.length → Num O → Num A → Held (mm ([] :: F) O A) k t q S →
    ∃ x y, Num (O ++ x) ∧ Num (A ++ y) ∧ cv tab prim (.loop L10_4) (roSt l k (fnsV R) (mm ([] :: F) O A) j) =
      some (match rulesE ((R.drop j).map (·.2)) l with
        | some n => (.goto 0, { env := [(3, .int .i64 8), (4, .str n)], mem := mm ([] :: F) (O ++ x) (A ++ y) })
        | none => (.exit 6, { env := [(2, .ptr 0 k 0)], mem := mm ([] :: F) (O ++ x) (A ++ y) })) := by
  intro m
  induction m with
  | zero =>
    intro j O A hj hO hA hH
    have hfl : (fnsV R).length = R.length := List.length_map ..
    have h1 : ¬ (j : Int) < ((fnsV R).length : Int) := by omega
    refine ⟨[], [], by simpa using hO, by simpa using hA, ?_⟩
    rw [cv_loop', List.drop_eq_nil_of_le (by omega)]
    unfold roSt
    simp [L10_4, h1, rulesE]
  | succ m ih =>
    intro j O A hj hO hA hH
    have hlt : j < R.length := by omega
    have hfl : (fnsV R).length = R.length := List.length_map ..
    have h1 : (j : Int) < ((fnsV R).length : Int) := by omega
    have hix : idxOk j (fnsV R).length = true := by simp [idxOk]; omega
    have w1 : IntKind.i64.wrap ((j : Int) + 1) = ((j + 1 : Nat) : Int) := by rw [wrap_small] <;> omega
    obtain ⟨x, y, hO1, hA1, hc⟩ := rc_loop l hl k t q S R[j].1 R[j].2 (rulesOk_at hR hlt) (fnsV R) j F l.length 0 O A (by omega) hO hA hH
    rw [List.drop_zero] at hc
    have hH1 : Held (mm ([] :: F) (O ++ x) (A ++ y)) k t q S := hH.more x y
    have hgf : (fnsV R)[j]? = some (.func (.func R[j].1) [] []) := by simp [fnsV, hlt]
    have hdr : (R.drop j).map (·.2) = R[j].2 :: (R.drop (j + 1)).map (·.2) := by rw [List.drop_eq_getElem_cons hlt]; rfl
    unfold rcSt at hc
    simp only [Int.cast_ofNat_Int] at hc
    rw [cv_loop', hdr, rulesE]
    cases hb : badG R[j].2 l with
    | some n =>
      rw [hb] at hc
      refine ⟨x, y, hO1, hA1, ?_⟩
      generalize R[j].1 = f at *
      generalize fnsV R = fs at *
      unfold roSt
      simp at hc
      simp [L10_4, h1, hix, hgf, hc]
    | none =>
      obtain ⟨x2, y2, hO2, hA2, ih1⟩ := ih (j + 1) (O ++ x) (A ++ y) (by omega) hO1 hA1 hH1
      rw [hb] at hc
      refine ⟨x ++ x2, y ++ y2, by rw [← List.append_assoc]; exact hO2, by rw [← List.append_assoc]; exact hA2, ?_⟩
      rw [← List.append_assoc, ← List.append_assoc]
      dsimp only
      rw [← ih1]
      generalize R[j].1 = f at *
      generalize fnsV R = fs at *
      unfold roSt
      simp at hc
      simp [L10_4, h1, hix, hgf, hc, w1]

/-! ### All of it -/
def prog (l : List Cls) : List Cls := sortC (builtins ++ l)
def rulesR (S : List Cls) : List (Nat × (Cls → Bool)) := [(45, superP S), (46, implP S), (47, straightP S), (48, apartP), (49, faceP), (50, wholeP), (51, doneP S)]
/-- Why classes do not go together, and which. -/
def classesE (l : List Cls) : Option (Int × Nm) :=
  if 30 < l.length then some (5, []) else match errG l with
  | some p => some p
  | none => match dblG l with
    | some n => some (8, n)
    | none => (rulesE ((rulesR (prog l)).map (·.2)) l).map fun n => (8, n)
structure GoodL (l : List Cls) : Prop where
  good : ∀ c ∈ l, GoodC c
  un : (l.flatMap (·.im)).length ≤ 90000
theorem prog_mem {l : List Cls} {c : Cls} : c ∈ prog l ↔ c ∈ builtins ∨ c ∈ l := by
  unfold prog
  rw [(sortC_perm _).mem_iff, List.mem_append]
theorem prog_len (l : List Cls) : (prog l).length = 12 + l.length := by
  unfold prog; rw [sortC_len, List.length_append]; rfl
theorem builtins_own : ∀ c ∈ builtins, c.OwnOk := by
  unfold Cls.OwnOk
  decide
theorem prog_lim {l : List Cls} (h : GoodL l) : Lim (prog l) := by
  have ho : ∀ c ∈ prog l, c.OwnOk := fun c hc => (prog_mem.1 hc).elim (builtins_own c) fun h1 => (h.good c h1).own
  refine ⟨fun c hc => (ho c hc).1, ho, ?_, fun x hx => ?_, fun c hc => ?_⟩
  rotate_left
  · obtain ⟨c, hc, hx⟩ := List.mem_flatMap.1 hx
    rcases prog_mem.1 hc with h1 | h1
    · have : ∀ c ∈ builtins, c.im = [] := by decide
      rw [this c h1] at hx; cases hx
    · exact (h.good c h1).wf.li x hx
  · rcases prog_mem.1 hc with h1 | h1
    · have h2 : ∀ c ∈ builtins, c.n.length ≤ 1000 := by decide
      have := h2 c h1
      have hM : (1000 : Nat) ≤ maxLen := by decide
      omega
    · exact (h.good c h1).wf.ln
  have hp : (univ (prog l)).Perm (univ (builtins ++ l)) := (sortC_perm _).flatMap_right _
  rw [hp.length_eq]
  unfold univ
  rw [List.flatMap_append, List.length_append, show (builtins.flatMap (·.im)).length = 0 from rfl]
  have := h.un
  omega
theorem dbl_nodup : ∀ {l : List Cls}, dblG l = none → (l.map (·.n)).Nodup ∧ ∀ c ∈ l, c.n ∉ builtins.map (·.n)
  | [], _ => ⟨List.nodup_nil, by simp⟩
  | c :: r, h => by
    unfold dblG at h
    split at h
    · cases h
    · rename_i hd
      obtain ⟨h1, h2⟩ := dbl_nodup h
      unfold dbl1 at hd
      simp only [Bool.or_eq_true, List.any_eq_true, beq_iff_eq, not_or, not_exists, not_and] at hd
      refine ⟨List.nodup_cons.2 ⟨fun hm => ?_, h1⟩, fun x hx => ?_⟩
      · obtain ⟨y, hy, he⟩ := List.mem_map.1 hm
        exact hd.2 y hy he
      · rcases List.mem_cons.1 hx with rfl | hx
        · intro hm
          obtain ⟨y, hy, he⟩ := List.mem_map.1 hm
          exact hd.1 y hy he
        · exact h2 x hx
theorem all_nodup {l : List Cls} (h : dblG l = none) : ((builtins ++ l).map (·.n)).Nodup := by
  obtain ⟨h1, h2⟩ := dbl_nodup h
  rw [List.map_append, List.nodup_append]
  refine ⟨by decide, h1, ?_⟩
  intro a ha b hb hab
  subst hab
  obtain ⟨c, hc, rfl⟩ := List.mem_map.1 hb
  exact h2 c hc ha
theorem prog_nodup {l : List Cls} (h : dblG l = none) : ((prog l).map (·.n)).Nodup := by
  have := (sortC_perm (builtins ++ l)).map (·.n)
  exact this.nodup_iff.2 (all_nodup h)
theorem findKClasses : findL S10_0 0 = some (.seq .skip K10_0) := by rfl
theorem cl_bad (e : Int) (n : Nm) (M : Mem) : cj tab prim S10_0 (some (.goto 0, { env := [(3, .int .i64 e), (4, .str n)], mem := M })) = some (.ret, { env := [(2, .nilp), (3, .int .i64 e), (4, .str n)], mem := M }) := by
  rw [cj_g tab prim S10_0 _ 0 findKClasses, cv_seq', cv_skip, seqK_n]
  simp [K10_0]
end Go.Proofs.YtpajgenngpjbaaaGreat.Ev

/- Classes: what it answers. -/
namespace Go.Proofs.YtpajgenngpjbaaaGreat.Ev
open Go

def clSt (l : List Cls) (M : Mem) : St := { env := [(0, .list 7 (l.map Cls.v) false), (4, .str [])], mem := M }
theorem cl_body (l : List Cls) (hg : l.length ≤ 30 → GoodL l) (F : Mem) (O A : Boxes) (hO : Num O) (hA : Num A) : ∃ x y, Num (O ++ x) ∧ Num (A ++ y) ∧
    match classesE l with
    | some (e, n) => cv tab prim S10_0 (clSt l (mm ([] :: F) O A)) = some (.goto 0, { env := [(3, .int .i64 e), (4, .str n)], mem := mm ([] :: F) (O ++ x) (A ++ y) })
    | none => ∃ k t q, Held (mm F (O ++ x) (A ++ y)) k t q (prog l) ∧ cv tab prim S10_0 (clSt l (mm ([] :: F) O A)) = some (.ret, { env := [(2, .ptr 0 k 0), (3, .int .i64 0), (4, .str [])], mem := mm ([] :: F) (O ++ x) (A ++ y) }) := by
  unfold classesE
  by_cases h30 : 30 < l.length
  · refine ⟨[], [], by simpa using hO, by simpa using hA, ?_⟩
    rw [if_pos h30]
    have g : (30 : Int) < (l.length : Int) := by omega
    unfold clSt
    simp [S10_0, g]
  · rw [if_neg h30]
    have g : ¬ (30 : Int) < (l.length : Int) := by omega
    have hG := hg (by omega)
    have hck := ck_loop l hG.good (by omega) (mm ([] :: F) O A) l.length 0 (by omega)
    rw [List.drop_zero] at hck
    unfold clkSt at hck
    simp only [Int.cast_ofNat_Int] at hck
    cases he : errG l with
    | some p =>
      obtain ⟨e, n⟩ := p
      rw [he] at hck
      refine ⟨[], [], by simpa using hO, by simpa using hA, ?_⟩
      unfold clSt
      simp at hck
      simp [S10_0, g, hck]
    | none =>
      rw [he] at hck
      have hdb := ev_doubled l (by omega)
      cases hd : dblG l with
      | some n =>
        rw [hd] at hdb
        refine ⟨[], [], by simpa using hO, by simpa using hA, ?_⟩
        unfold clSt
        simp at hck hdb
        simp [S10_0, g, hck, hdb]
      | none =>
        rw [hd] at hdb
        -- the program is made
        have hB := ev_Builtin
        have hAd := bM_adopt
        unfold bM at hAd
        have hm1 := mnew_A O A hA (flat (builtins.map Cls.v)) ([] :: F)
        have hA1 : Num (A ++ [(A.length, flat (builtins.map Cls.v))]) := hA.add _
        have hm2 := mnew_O O (A ++ [(A.length, flat (builtins.map Cls.v))]) hO [.mapv none [] []] ([] :: F)
        have hO1 : Num (O ++ [(O.length, [.mapv none [] []])]) := hO.add _
        have hm3 := mnew_A (O ++ [(O.length, [.mapv none [] []])]) (A ++ [(A.length, flat (builtins.map Cls.v))]) hA1 [.slc 0 A.length 0 7 12, .mref O.length] ([] :: F)
        have hA2 : Num ((A ++ [(A.length, flat (builtins.map Cls.v))]) ++ [((A ++ [(A.length, flat (builtins.map Cls.v))]).length, [.slc 0 A.length 0 7 12, .mref O.length])]) := hA1.add _
        obtain ⟨t', y', r1, r2, r3, r4, r5, r6⟩ := ap_loop l hG.good (by omega) F (O ++ [(O.length, [.mapv none [] []])]) A hA (A.length + 1) O.length (by omega) l.length 0 A.length
          ([(A.length, flat (builtins.map Cls.v))] ++ [((A ++ [(A.length, flat (builtins.map Cls.v))]).length, [.slc 0 A.length 0 7 12, .mref O.length])]) (by omega) (by rw [← List.append_assoc]; exact hA2) (Nat.le_refl _) (by omega)
          (by rw [← List.append_assoc]; have := hA1.get [.slc 0 A.length 0 7 12, .mref O.length]; simpa using this)
          (by rw [← List.append_assoc]; simp only [List.take_zero, List.append_nil]; exact bget_add (hA.get _) _)
        -- and put in order
        have hTne : builtins ++ l ≠ [] := by intro h0; have := congrArg List.length h0; simp [builtins] at this
        have hTl : (builtins ++ l).length = 12 + l.length := by rw [List.length_append]; rfl
        have hsf := ev_SortFunc ([] :: F) (O ++ [(O.length, [.mapv none [] []])]) (A ++ y') t' (builtins ++ l) hTne (by omega) (all_nodup hd) r5
        rw [hTl] at hsf
        have hpe : sortC (builtins ++ l) = prog l := rfl
        rw [hpe] at hsf
        have hpl := prog_len l
        have e1 : bput (A ++ y') t' (flat ((prog l).map Cls.v)) = A ++ bput y' t' (flat ((prog l).map Cls.v)) := bput_behind hA r2 _ _
        rw [e1] at hsf
        have hN3 : Num (A ++ bput y' t' (flat ((prog l).map Cls.v))) := by rw [← e1]; exact r1.bput (r1.lt r5) _
        have hk3 : bget (A ++ bput y' t' (flat ((prog l).map Cls.v))) (A.length + 1) = some [.slc 0 t' 0 7 (prog l).length, .mref O.length] := by
          rw [← e1, bget_bput, if_neg r3, hpl]; exact r4
        have ht3 : bget (A ++ bput y' t' (flat ((prog l).map Cls.v))) t' = some (flat ((prog l).map Cls.v)) := by
          rw [← e1, bget_bput, if_pos rfl]
        have hat := at_loop l (prog l) (by omega) (prog_nodup hd) (A.length + 1) t' F O (A ++ bput y' t' (flat ((prog l).map Cls.v))) hO hk3 ht3
        have hHeld : Held (mm ([] :: F) (O ++ [(O.length, [atO (prog l)])]) (A ++ bput y' t' (flat ((prog l).map Cls.v)))) (A.length + 1) t' O.length (prog l) :=
          ⟨by simp, by rw [mget_A]; exact hk3, by rw [mget_A]; exact ht3, by rw [mget_O]; exact hO.get _, by omega⟩
        obtain ⟨q1, q2, q3, q4, q5, q6, q7⟩ := rules_ok (k := A.length + 1) (t := t') (q := O.length) (l := l) (prog_lim hG) fun c hc => (hG.good c hc).own
        obtain ⟨x4, y4, hO4, hA4, hro⟩ := ro_loop l (by omega) (A.length + 1) t' O.length (prog l) (rulesR (prog l)) ⟨q1, q2, q3, q4, q5, q6, q7, trivial⟩ (by simp [rulesR]) F 7 0 (O ++ [(O.length, [atO (prog l)])]) (A ++ bput y' t' (flat ((prog l).map Cls.v))) (by rfl) (hO.add _) hN3 hHeld
        rw [List.drop_zero] at hro
        have hfn : fnsV (rulesR (prog l)) = [.func (.func 45) [] [], .func (.func 46) [] [], .func (.func 47) [] [], .func (.func 48) [] [], .func (.func 49) [] [], .func (.func 50) [] [], .func (.func 51) [] []] := rfl
        have hH4 : Held (mm F (O ++ ([(O.length, [atO (prog l)])] ++ x4)) (A ++ (bput y' t' (flat ((prog l).map Cls.v)) ++ y4))) (A.length + 1) t' O.length (prog l) := by
          have := hHeld.more (F' := F) x4 y4
          rw [List.append_assoc, List.append_assoc] at this
          exact this
        refine ⟨[(O.length, [atO (prog l)])] ++ x4, bput y' t' (flat ((prog l).map Cls.v)) ++ y4, by rw [← List.append_assoc]; exact hO4, by rw [← List.append_assoc]; exact hA4, ?_⟩
        have hat0 : atO ((prog l).take 0) = .mapv none [] [] := rfl
        unfold atSt at hat
        rw [hat0] at hat
        unfold roSt at hro
        rw [hfn] at hro
        unfold apSt at r6
        rw [List.append_assoc, List.append_assoc] at hro
        generalize bput y' t' (flat ((prog l).map Cls.v)) = y3 at *
        generalize flat (builtins.map Cls.v) = X at *
        generalize deadB 10 ++ [(10, X)] = dB at *
        generalize rulesE ((rulesR (prog l)).map (·.2)) l = re at *
        simp only [Int.cast_ofNat_Int] at r6 hat hro
        simp only [List.append_assoc] at *
        cases re with
        | some n =>
          simp only [Option.map_some]
          unfold clSt
          simp at hck hdb hro r6 hat hsf
          simp [S10_0, g, hck, hdb, hB, hAd, hm1, hm2, hm3, r6, r4, hsf, hk3, hat, hro, ownE]
        | none =>
          simp only [Option.map_none]
          refine ⟨_, _, _, hH4, ?_⟩
          unfold clSt
          simp at hck hdb hro r6 hat hsf
          simp [S10_0, g, hck, hdb, hB, hAd, hm1, hm2, hm3, r6, r4, hsf, hk3, hat, hro, ownE]

/-- What Classes answers. -/
theorem ev_Classes (l : List Cls) (hg : l.length ≤ 30 → GoodL l) (F : Mem) (O A : Boxes) (hO : Num O) (hA : Num A) (o : Bool) : ∃ x y, Num (O ++ x) ∧ Num (A ++ y) ∧
    match classesE l with
    | some (e, n) => ev tab prim 10 [.list 7 (l.map Cls.v) o] (mm F O A) = some (.tup [.nilp, .int .i64 e, .str n], mm F (O ++ x) (A ++ y))
    | none => ∃ k t q, Held (mm F (O ++ x) (A ++ y)) k t q (prog l) ∧ ev tab prim 10 [.list 7 (l.map Cls.v) o] (mm F O A) = some (.tup [.ptr 0 k 0, .int .i64 0, .str []], mm F (O ++ x) (A ++ y)) := by
  obtain ⟨x, y, h1, h2, h3⟩ := cl_body l hg F O A hO hA
  refine ⟨x, y, h1, h2, ?_⟩
  have c0 : ∀ O A, mm ([] :: F) O A = ([] : Boxes) :: mm F O A := fun _ _ => rfl
  unfold clSt at h3
  simp only [c0] at h3
  cases he : classesE l with
  | some p =>
    obtain ⟨e, n⟩ := p
    rw [he] at h3
    have hb := cl_bad e n (mm ([] :: F) (O ++ x) (A ++ y))
    simp only [c0] at hb
    dsimp only at h3 ⊢
    rw [ev_fn' tab prim (f := 10) rfl _ _ rfl]
    simp [h3, hb]
  | none =>
    rw [he] at h3
    obtain ⟨k, t, q, hH, h3⟩ := h3
    refine ⟨k, t, q, hH, ?_⟩
    rw [ev_fn' tab prim (f := 10) rfl _ _ rfl]
    simp [h3]
end Go.Proofs.YtpajgenngpjbaaaGreat.Ev

/- What a program tells does not hang on the order of its classes. -/
namespace Go.Proofs.YtpajgenngpjbaaaGreat.Ev
open Go

theorem look_some {S : List Cls} (hn : (S.map (·.n)).Nodup) {c : Cls} (hc : c ∈ S) : look S c.n = some c := by
  induction S with
  | nil => cases hc
  | cons a r ih =>
    rw [List.map_cons, List.nodup_cons] at hn
    unfold look
    rw [List.find?_cons]
    by_cases h : a.n = c.n
    · rcases List.mem_cons.1 hc with rfl | hc
      · simp
      · exact absurd (List.mem_map.2 ⟨c, hc, h.symm⟩) hn.1
    · have h1 : (a.n == c.n) = false := by simpa using h
      rw [h1]
      rcases List.mem_cons.1 hc with rfl | hc
      · exact absurd rfl h
      · exact ih hn.2 hc
theorem look_none {S : List Cls} {n : Nm} (h : n ∉ S.map (·.n)) : look S n = none := by
  unfold look
  rw [List.find?_eq_none]
  intro x hx hc
  exact h (List.mem_map.2 ⟨x, hx, by simpa using hc⟩)
theorem look_perm {S T : List Cls} (hp : S.Perm T) (hn : (S.map (·.n)).Nodup) (n : Nm) : look S n = look T n := by
  have hnT : (T.map (·.n)).Nodup := (hp.map (·.n)).nodup_iff.1 hn
  by_cases h : n ∈ S.map (·.n)
  · obtain ⟨c, hc, rfl⟩ := List.mem_map.1 h
    rw [look_some hn hc, look_some hnT (hp.mem_iff.1 hc)]
  · rw [look_none h, look_none (fun h2 => h ((hp.map (·.n)).mem_iff.2 h2))]
/-- Two rows of classes that tell the same. -/
structure Like (S T : List Cls) : Prop where
  look : ∀ n, look S n = look T n
  len : S.length = T.length
  un : (univ S).length = (univ T).length
theorem Like.of_perm {S T : List Cls} (hp : S.Perm T) (hn : (S.map (·.n)).Nodup) : Like S T := ⟨look_perm hp hn, hp.length_eq, (hp.flatMap_right _).length_eq⟩
theorem Like.chainG {S T : List Cls} (h : Like S T) : ∀ (k : Nat) (out : List Nm) (nm : Nm), chainG S k out nm = chainG T k out nm
  | 0, _, _ => rfl
  | k + 1, out, nm => by
    unfold Ev.chainG
    rw [h.look]
    cases Ev.look T nm with
    | none => rfl
    | some c => simp only; rw [h.chainG k]
theorem Like.chain {S T : List Cls} (h : Like S T) (nm : Nm) : chain S nm = chain T nm := by
  unfold Ev.chain; rw [h.len, h.chainG]
theorem Like.imps {S T : List Cls} (h : Like S T) (nm : Nm) : imps S nm = imps T nm := by
  unfold Ev.imps; rw [h.look]
mutual
theorem Like.spreadG {S T : List Cls} (h : Like S T) : ∀ (n : Nat) (nm : Nm) (ks : List Nm), spreadG S n nm ks = spreadG T n nm ks
  | 0, _, _ => by rw [Ev.spreadG, Ev.spreadG]
  | n + 1, nm, ks => by rw [Ev.spreadG, Ev.spreadG, h.chain, h.spreadC n]
theorem Like.spreadC {S T : List Cls} (h : Like S T) (n : Nat) : ∀ (l ks : List Nm), spreadC S n l ks = spreadC T n l ks
  | [], _ => by rw [Ev.spreadC, Ev.spreadC]
  | s :: r, ks => by rw [Ev.spreadC, Ev.spreadC, h.imps, h.spreadI n, h.spreadC n r]
theorem Like.spreadI {S T : List Cls} (h : Like S T) (n : Nat) : ∀ (l ks : List Nm), spreadI S n l ks = spreadI T n l ks
  | [], _ => by rw [Ev.spreadI, Ev.spreadI]
  | i :: r, ks => by rw [Ev.spreadI, Ev.spreadI, h.spreadG n, h.spreadI n r]
end
theorem Like.fuelS {S T : List Cls} (h : Like S T) : fuelS S = fuelS T := by unfold Ev.fuelS; rw [h.un]
theorem Like.ifcs {S T : List Cls} (h : Like S T) (nm : Nm) : ifcs S nm = ifcs T nm := by
  unfold Ev.ifcs; rw [h.look, h.fuelS, h.spreadG]
theorem Like.hasP {S T : List Cls} (h : Like S T) (c n d : Nm) : hasP S c n d = hasP T c n d := by
  unfold Ev.hasP; rw [h.chain]; simp only [h.look]
theorem Like.superP {S T : List Cls} (h : Like S T) : superP S = superP T := by
  funext c; unfold Ev.superP; rw [h.look]
theorem Like.implP {S T : List Cls} (h : Like S T) : implP S = implP T := by
  funext c; unfold Ev.implP implP1; simp only [h.look]
theorem Like.straightP {S T : List Cls} (h : Like S T) : straightP S = straightP T := by
  funext c; unfold Ev.straightP; rw [h.chain, h.fuelS, h.spreadG]
theorem Like.doneP {S T : List Cls} (h : Like S T) : doneP S = doneP T := by
  funext c; unfold Ev.doneP done1 doneM; simp only [h.chain, h.ifcs, h.look, h.hasP]
theorem Like.rules {S T : List Cls} (h : Like S T) : rulesR S = rulesR T := by
  unfold rulesR; rw [h.superP, h.implP, h.straightP, h.doneP]
theorem prog_like {l : List Cls} (h : dblG l = none) : Like (prog l) (builtins ++ l) := Like.of_perm (sortC_perm _) (prog_nodup h)

theorem errG_none : ∀ {l : List Cls}, errG l = none ↔ ∀ c ∈ l, c.err = 0
  | [] => by simp [errG]
  | c :: r => by
    unfold errG
    split
    · rename_i h; rw [errG_none]; simp [h]
    · rename_i h; simp [h]
theorem badG_none {P : Cls → Bool} : ∀ {l : List Cls}, badG P l = none ↔ ∀ c ∈ l, P c = true
  | [] => by simp [badG]
  | c :: r => by
    unfold badG
    split
    · rename_i h; rw [badG_none]; simp [h]
    · rename_i h; simp [h]
theorem rulesE_none : ∀ {Ps : List (Cls → Bool)} {l : List Cls}, rulesE Ps l = none ↔ ∀ P ∈ Ps, ∀ c ∈ l, P c = true
  | [], l => by simp [rulesE]
  | P :: r, l => by
    unfold rulesE
    cases h : badG P l with
    | none =>
      simp only; rw [rulesE_none]
      exact ⟨fun h2 Q hQ c hc => (List.mem_cons.1 hQ).elim (fun e => by subst e; exact badG_none.1 h c hc) (fun h3 => h2 Q h3 c hc), fun h2 Q hQ => h2 Q (by simp [hQ])⟩
    | some n => simp only [reduceCtorEq, false_iff]; intro h2; rw [badG_none.2 (h2 P (by simp))] at h; cases h
theorem dblG_none : ∀ {l : List Cls}, dblG l = none ↔ (l.map (·.n)).Nodup ∧ ∀ c ∈ l, c.n ∉ builtins.map (·.n) := by
  intro l
  refine ⟨dbl_nodup, ?_⟩
  induction l with
  | nil => intro _; rfl
  | cons c r ih =>
    intro ⟨h1, h2⟩
    rw [List.map_cons, List.nodup_cons] at h1
    unfold dblG
    rw [if_neg]
    · exact ih ⟨h1.2, fun x hx => h2 x (by simp [hx])⟩
    · unfold dbl1
      simp only [Bool.or_eq_true, List.any_eq_true, beq_iff_eq, not_or, not_exists, not_and]
      refine ⟨fun x hx he => h2 c (by simp) (List.mem_map.2 ⟨x, hx, he⟩), fun x hx he => h1.1 (List.mem_map.2 ⟨x, hx, he⟩)⟩
/-- Classes go together. -/
theorem classes_none {l : List Cls} : classesE l = none ↔ l.length ≤ 30 ∧ (∀ c ∈ l, c.err = 0) ∧ ((l.map (·.n)).Nodup ∧ ∀ c ∈ l, c.n ∉ builtins.map (·.n)) ∧ ∀ P ∈ (rulesR (prog l)).map (·.2), ∀ c ∈ l, P c = true := by
  unfold classesE
  by_cases h30 : 30 < l.length
  · rw [if_pos h30]; simp; omega
  · rw [if_neg h30]
    cases he : errG l with
    | some p => simp only [reduceCtorEq, false_iff]; intro h; rw [errG_none.2 h.2.1] at he; cases he
    | none =>
      cases hd : dblG l with
      | some n => simp only [reduceCtorEq, false_iff]; intro h; rw [dblG_none.2 h.2.2.1] at hd; cases hd
      | none =>
        simp only [Option.map_eq_none_iff]
        rw [rulesE_none]
        exact ⟨fun h => ⟨by omega, errG_none.1 he, dblG_none.1 hd, h⟩, fun h => h.2.2.2⟩
/-- In whatever order classes come, they go together or not. -/
theorem classes_perm {l m : List Cls} (hp : l.Perm m) : classesE l = none → classesE m = none := by
  intro h
  have h1 := classes_none.1 h
  refine classes_none.2 ⟨by rw [← hp.length_eq]; exact h1.1, fun c hc => h1.2.1 c (hp.mem_iff.2 hc), ⟨(hp.map _).nodup_iff.1 h1.2.2.1.1, fun c hc => h1.2.2.1.2 c (hp.mem_iff.2 hc)⟩, ?_⟩
  have hL : Like (prog l) (prog m) := Like.of_perm ((sortC_perm _).trans ((hp.append_left builtins).trans (sortC_perm _).symm)) (prog_nodup (dblG_none.2 h1.2.2.1))
  rw [← hL.rules]
  exact fun P hP c hc => h1.2.2.2 P hP c (hp.mem_iff.2 hc)
end Go.Proofs.YtpajgenngpjbaaaGreat.Ev

/- awake; So many classes go together (law LinkMany). -/
namespace Go.Proofs.YtpajgenngpjbaaaGreat.Ev
open Go

/-- spread, as the kernel may run it. -/
def spreadN (S : List Cls) : Nat → Nm → List Nm → List Nm
  | 0, _, ks => ks
  | n + 1, nm, ks => (chain S nm).foldl (fun ks s => (imps S s).foldl (fun ks i => if ks.contains i then ks else spreadN S n i (ks ++ [i])) ks) ks
mutual
theorem spreadG_N (S : List Cls) : ∀ (n : Nat) (nm : Nm) (ks : List Nm), spreadG S n nm ks = spreadN S n nm ks
  | 0, _, _ => by rw [spreadG, spreadN]
  | n + 1, nm, ks => by rw [spreadG, spreadN, spreadC_N S n]
theorem spreadC_N (S : List Cls) (n : Nat) : ∀ (l ks : List Nm), spreadC S n l ks = l.foldl (fun ks s => (imps S s).foldl (fun ks i => if ks.contains i then ks else spreadN S n i (ks ++ [i])) ks) ks
  | [], _ => by rw [spreadC, List.foldl_nil]
  | s :: r, ks => by rw [spreadC, spreadI_N S n, spreadC_N S n r, List.foldl_cons]
theorem spreadI_N (S : List Cls) (n : Nat) : ∀ (l ks : List Nm), spreadI S n l ks = l.foldl (fun ks i => if ks.contains i then ks else spreadN S n i (ks ++ [i])) ks
  | [], _ => by rw [spreadI, List.foldl_nil]
  | i :: r, ks => by rw [spreadI, spreadG_N S n, spreadI_N S n r, List.foldl_cons]
end
def ifcsN (S : List Cls) (nm : Nm) : List Nm :=
  if ((look S nm).getD Cls.zero).i then (if (spreadN S (fuelS S) nm []).contains nm then spreadN S (fuelS S) nm [] else spreadN S (fuelS S) nm [] ++ [nm]) else spreadN S (fuelS S) nm []
theorem ifcs_N (S : List Cls) (nm : Nm) : ifcs S nm = ifcsN S nm := by unfold ifcs ifcsN; simp only [spreadG_N]
def straightQ (S : List Cls) (c : Cls) : Bool := !((chain S c.s).contains c.n) && (!c.i || !((spreadN S (fuelS S) c.n []).contains c.n))
/-- done, without order. -/
def doneQ (S : List Cls) (c : Cls) : Bool := c.a || (chain S c.n ++ ifcsN S c.n).all (done1 S c.n)
theorem all_perm {α : Type} {l m : List α} (h : l.Perm m) (p : α → Bool) : l.all p = m.all p := by
  rw [Bool.eq_iff_iff, List.all_eq_true, List.all_eq_true]
  exact ⟨fun h2 x hx => h2 x (h.mem_iff.2 hx), fun h2 x hx => h2 x (h.mem_iff.1 hx)⟩
theorem sortT_perm (l : List Nm) : (sortT l).Perm l := List.mergeSort_perm ..
theorem doneP_Q (S : List Cls) : doneP S = doneQ S := by
  funext c
  unfold doneP doneQ
  rw [all_perm (List.Perm.append_left (chain S c.n) (sortT_perm (ifcs S c.n))), ifcs_N]
theorem straightP_Q (S : List Cls) : straightP S = straightQ S := by
  funext c
  unfold straightP straightQ
  rw [spreadG_N]
def rulesQ (S : List Cls) : List (Cls → Bool) := [superP S, implP S, straightQ S, apartP, faceP, wholeP, doneQ S]
theorem rulesR_Q (S : List Cls) : (rulesR S).map (·.2) = rulesQ S := by
  unfold rulesR rulesQ
  rw [doneP_Q, straightP_Q]
  rfl
/-- What Classes answers, by the classes as they came. -/
def classesF (l : List Cls) : Option (Int × Nm) :=
  if 30 < l.length then some (5, []) else match errG l with
  | some p => some p
  | none => match dblG l with
    | some n => some (8, n)
    | none => (rulesE (rulesQ (builtins ++ l)) l).map fun n => (8, n)
theorem classesE_F (l : List Cls) : classesE l = classesF l := by
  unfold classesE classesF
  split
  · rfl
  · cases errG l with
    | some p => rfl
    | none =>
      cases hd : dblG l with
      | some n => rfl
      | none => simp only; rw [(prog_like hd).rules, rulesR_Q]

def smallB (c : Cls) : Bool := decide (c.n.length ≤ 1000 ∧ c.s.length ≤ 1000 ∧ c.im.length ≤ 1000 ∧ c.fs.length ≤ 1000 ∧ c.ms.length ≤ 1000 ∧ (∀ x ∈ c.im, x.length ≤ 1000) ∧ (∀ x ∈ c.fs, x.n.length ≤ 1000 ∧ x.d.length ≤ 1000) ∧ c.texts.length ≤ 1000000 ∧
  ∀ m ∈ c.ms, (m.n.length ≤ 1000 ∧ m.d.length ≤ 1000 ∧ m.code.length ≤ 1000 ∧ m.hs.length ≤ 1000) ∧ ((Lit.int .i64 m.st).wf = true ∧ (Lit.int .i64 m.lo).wf = true) ∧
    (∀ x ∈ m.code, (x.c.length ≤ 1000 ∧ x.n.length ≤ 1000 ∧ x.d.length ≤ 1000) ∧ (Lit.int .i64 x.o).wf = true ∧ (Lit.int .i64 x.a).wf = true ∧ (Lit.int .i64 x.b).wf = true) ∧
    (∀ x ∈ m.hs, x.c.length ≤ 1000 ∧ (Lit.int .i64 x.f).wf = true ∧ (Lit.int .i64 x.t).wf = true ∧ (Lit.int .i64 x.a).wf = true))
theorem good_of {c : Cls} (h : smallB c = true) : GoodC c := by
  unfold smallB at h
  obtain ⟨hn, hs, hi, hf, hm, hix, hfx, ht, hmx⟩ := of_decide_eq_true h
  have hM : (1000 : Nat) ≤ maxLen := by decide
  refine ⟨⟨by omega, by omega, by omega, fun m hmm => ?_, by omega, by omega, fun x hx => by have := hix x hx; omega, fun x hx => by have := hfx x hx; omega⟩,
    ⟨by omega, by omega, by omega, by omega, by omega, fun x hx => by have := hix x hx; omega, fun x hx => by have := hfx x hx; omega, fun m hmm => ?_, ht⟩⟩
  · obtain ⟨⟨a1, a2, a3, a4⟩, ⟨b1, b2⟩, hc, hh⟩ := hmx m hmm
    exact ⟨b1, b2, by omega, by omega, fun x hx => ⟨(hc x hx).2.1, (hc x hx).2.2.1, (hc x hx).2.2.2⟩, fun x hx => ⟨(hh x hx).2.1, (hh x hx).2.2.1, (hh x hx).2.2.2⟩, by omega, by omega, fun x hx => by have := (hc x hx).1; omega, fun x hx => by have := (hh x hx).1; omega⟩
  · obtain ⟨⟨a1, a2, a3, a4⟩, ⟨b1, b2⟩, hc, hh⟩ := hmx m hmm
    exact ⟨by omega, by omega, by omega, by omega, fun x hx => by have := (hc x hx).1; omega, fun x hx => by have := (hh x hx).1; omega⟩

def plainC (n s : Nm) : Cls := ⟨n, s, false, false, [], [], []⟩
theorem goodL_of {l : List Cls} (h : l.all smallB = true) (hu : (l.flatMap (·.im)).length ≤ 90000) : GoodL l := ⟨fun c hc => good_of (List.all_eq_true.1 h c hc), hu⟩

/-! ### What the document fixes -/
def clA : Cls := plainC [65] sObject
theorem fA : classesF [clA] = none := by kernel_rfl
theorem fAB : classesF [plainC [65] [66]] = some (8, [65]) := by kernel_rfl
theorem num_nil : Num [] := fun _ h => by cases h
theorem look_sys : ∀ {T : List Cls}, look (builtins ++ T) sSys = look builtins sSys := by
  intro T
  rfl
end Go.Proofs.YtpajgenngpjbaaaGreat.Ev

/- The law LinkMany. -/
namespace Go.Proofs.YtpajgenngpjbaaaGreat.Ev
open Go

def decS (i : Nat) : Nm := if i < 10 then [UInt8.ofNat (48 + i)] else [UInt8.ofNat (48 + i / 10), UInt8.ofNat (48 + i % 10)]
def kN (i : Nat) : Nm := 75 :: decS i
def kC (i : Nat) : Cls := plainC (kN i) sObject
def manyC (n : Nat) : List Cls := (List.range n).map kC
theorem many_fine : (List.range 41).all (fun n => decide (classesF (manyC n) = if 30 < n then some (5, []) else none)) = true := by kernel_rfl
theorem many_good : (manyC 41).all smallB = true := by kernel_rfl
theorem manyC_len (n : Nat) : (manyC n).length = n := by simp [manyC]
def mnSt (n i : Nat) : St := { env := [(0, .int .i64 n), (3, .list 7 ((manyC i).map Cls.v) true), (4, .int .i64 i)], mem := [[], [], []] }
theorem many_F {n : Nat} (h : n ≤ 40) : classesE (manyC n) = if 30 < n then some (5, []) else none := by
  have := List.all_eq_true.1 many_fine n (List.mem_range.2 (by omega))
  rw [classesE_F]
  exact of_decide_eq_true this
theorem many_ok {n : Nat} (h : n ≤ 30) : GoodL (manyC n) := by
  refine ⟨fun c hc => good_of ?_, ?_⟩
  · obtain ⟨i, hi, rfl⟩ := List.mem_map.1 hc
    exact List.all_eq_true.1 many_good _ (List.mem_map.2 ⟨i, List.mem_range.2 (by have := List.mem_range.1 hi; omega), rfl⟩)
  · have : (manyC n).flatMap (·.im) = [] := by
      rw [List.flatMap_eq_nil_iff]
      intro c hc
      obtain ⟨i, hi, rfl⟩ := List.mem_map.1 hc
      rfl
    rw [this]; simp
theorem builtins_row : arowOf [[], deadB 10 ++ [(10, flat (builtins.map Cls.v))]] (.slc 0 10 0 7 12) = some (.list 7 (builtins.map Cls.v) true) := by kernel_rfl
end Go.Proofs.YtpajgenngpjbaaaGreat.Ev

/- The law LinkWhole. -/
namespace Go.Proofs.YtpajgenngpjbaaaGreat.Ev
open Go

def goA : Mth := ⟨[103, 111], [40, 41, 86], false, true, 0, 0, [], []⟩
def goM : Mth := ⟨[103, 111], [40, 41, 86], false, false, 0, 1, [retI], []⟩
def wI : Cls := ⟨[73], sObject, true, true, [], [], [goA]⟩
def wA (r : Nat) : Cls := if r = 0 then ⟨[65], sObject, false, false, [], [], []⟩ else if r = 1 then ⟨[65], sObject, false, true, [[73]], [], []⟩ else ⟨[65], sObject, false, true, [], [], [goA]⟩
def wB (r : Nat) (ab has : Bool) : Cls := ⟨[66], [65], false, ab, if r = 0 then [[73]] else [], [], if has then [goM] else []⟩
def wL (r : Nat) (ab has : Bool) : List Cls := [wB r ab has, wI, wA r]
theorem whole_fine : (List.range 3).all (fun r => [true, false].all fun ab => [true, false].all fun has =>
    decide (classesF (wL r ab has) = if !has && !ab then some (8, [66]) else none) && ((wL r ab has).all smallB && decide (((wL r ab has).flatMap (·.im)).length ≤ 90000))) = true := by kernel_rfl
theorem whole_facts {r : Nat} (hr : r < 3) (ab has : Bool) : classesF (wL r ab has) = (if !has && !ab then some (8, [66]) else none) ∧ GoodL (wL r ab has) := by
  have h := List.all_eq_true.1 (List.all_eq_true.1 (List.all_eq_true.1 whole_fine r (List.mem_range.2 hr)) ab (by cases ab <;> simp)) has (by cases has <;> simp)
  obtain ⟨h1, h2⟩ := (Bool.and_eq_true _ _).mp h
  obtain ⟨h2, h3⟩ := (Bool.and_eq_true _ _).mp h2
  exact ⟨of_decide_eq_true h1, goodL_of h2 (of_decide_eq_true h3)⟩
theorem whole_call {r : Nat} (hr : r < 3) (ab has : Bool) (F : Mem) : ∃ x y,
    if !has && !ab then ev tab prim 10 [.list 7 ((wL r ab has).map Cls.v) false] (mm F [] []) = some (.tup [.nilp, .int .i64 8, .str [66]], mm F x y)
    else ∃ k, ev tab prim 10 [.list 7 ((wL r ab has).map Cls.v) false] (mm F [] []) = some (.tup [.ptr 0 k 0, .int .i64 0, .str []], mm F x y) := by
  obtain ⟨hf, hg⟩ := whole_facts hr ab has
  obtain ⟨x, y, hO, hA, h2⟩ := ev_Classes (wL r ab has) (fun _ => hg) F [] [] num_nil num_nil false
  rw [classesE_F, hf] at h2
  refine ⟨x, y, ?_⟩
  cases hc : (!has && !ab) with
  | true => rw [hc] at h2; exact h2
  | false => rw [hc] at h2; obtain ⟨k, t, q, _, h3⟩ := h2; exact ⟨k, h3⟩

def wcA (r : Nat) : List V := [.str [65], .str sObject, .bool false, .bool (if r = 0 then false else true), if r = 1 then .list 1 [.str [73]] true else .list 1 [] false, .list 3 [] false, if r = 2 then .list 8 [goA.v] true else .list 8 [] false]
def wcB (r : Nat) (ab has : Bool) : List V := [.str [66], .str [65], .bool false, .bool ab, if r = 0 then .list 1 [.str [73]] true else .list 1 [] false, .list 3 [] false, if has then .list 8 [goM.v] true else .list 8 [] false]
end Go.Proofs.YtpajgenngpjbaaaGreat.Ev

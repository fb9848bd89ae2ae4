/- Code, and functions: what the evaluator answers, the model's call hands back. -/
import Derived.Test.YtgggjclhadlncaaEv10
namespace Go.Proofs.Ytgggjclhadlncaa.Ev
open Go

def okCode (P : Program) (N : Nat) : Code → ACode → Bool
  | c, .clr _ _ b => okCode P N c b
  | .skip, .skip => true
  | .region _ ops draw, .ops l _ _ => okList P N ops ops.toList l && (!draw || drawOk ops l)
  | .seq a b, .seq a' b' => okCode P N a a' && okCode P N b b'
  | .cond c a b, .cond c' a' b' => okArg c c' && okCode P N a a' && okCode P N b b'
  | .block id b, .block id' b' => id == id' && okCode P N b b'
  | .loop b, .loop b' => okCode P N b b'
  | .exit id, .exit id' => id == id'
  | .scope b, .scope b' => okCode P N b b'
  | .label l, .label l' => l == l'
  | .goto l, .goto l' => l == l'
  | .ret, .ret => true
  | _, _ => false

def toExit : AExit → Exit
  | .normal => .normal
  | .exit id => .exit id
  | .goto l => .goto l
  | .ret => .ret

theorem findL_none {P : Program} {N : Nat} : ∀ {ac : ACode} {c : Code} {l : Nat}, okCode P N c ac = true → findL ac l = none → findLabel c l = none := by
  intro ac
  induction ac with
  | clr cl dr b ih =>
    intro c l hk hf
    have hk' : okCode P N c b = true := by cases c <;> simpa [okCode] using hk
    exact ih hk' hf
  | seq a' b' iha ihb =>
    intro c l hk hf
    cases c <;> simp [okCode] at hk
    rename_i a b
    simp only [findL] at hf
    cases h1 : findL a' l with
    | some r => simp [h1] at hf
    | none =>
      simp only [h1] at hf
      simp only [findLabel, iha hk.1 h1]
      exact ihb hk.2 hf
  | label l' =>
    intro c l hk hf
    cases c <;> simp [okCode] at hk
    subst hk
    simp only [findL] at hf
    simp only [findLabel]
    split at hf
    · cases hf
    · rename_i h; rw [if_neg h]
  | _ => intro c l hk hf; cases c <;> first | rfl | (simp [okCode] at hk)

theorem findL_ok {P : Program} {N : Nat} : ∀ {ac : ACode} {c : Code} {rest : ACode} {l : Nat}, okCode P N c ac = true → findL ac l = some rest → ∃ r, findLabel c l = some r ∧ okCode P N r rest = true := by
  intro ac
  induction ac with
  | clr cl dr b ih =>
    intro c rest l hk hf
    have hk' : okCode P N c b = true := by cases c <;> simpa [okCode] using hk
    exact ih hk' hf
  | seq a' b' iha ihb =>
    intro c rest l hk hf
    cases c <;> simp [okCode] at hk
    rename_i a b
    simp only [findL] at hf
    cases h1 : findL a' l with
    | some r =>
      simp only [h1, Option.some.injEq] at hf
      subst hf
      obtain ⟨r0, e1, e2⟩ := iha hk.1 h1
      exact ⟨.seq r0 b, by simp [findLabel, e1], by simp [okCode, e2, hk.2]⟩
    | none =>
      simp only [h1] at hf
      obtain ⟨r0, e1, e2⟩ := ihb hk.2 hf
      exact ⟨r0, by simp [findLabel, findL_none hk.1 h1, e1], e2⟩
  | label l' =>
    intro c rest l hk hf
    cases c <;> simp [okCode] at hk
    subst hk
    simp only [findL] at hf
    split at hf
    · rename_i h
      injection hf with hf
      subst hf
      exact ⟨.skip, by simp only [findLabel]; rw [if_pos h], rfl⟩
    · cases hf
  | _ => intro c rest l hk hf; simp [findL] at hf

section
variable {P : Program} {call : CallF} {G0 : Gh} {w0 : World} {L N : Nat} {G : Gh} {a : Act} {s : St} {w : World}

/-- A loop that stands at a round's head. -/
def LoopWp (P : Program) (c : Code) (Q : Exit → Act → World → Prop) (a : Act) (w : World) : Prop :=
  ∀ (b : Frame) (k : List Item) (cs : List Frame), ∃ e a' w', Q e a' w' ∧ Arrives P (lone (b.at a (.code c :: .inLoop c :: k)) cs w) b k cs e a' w'

theorem loop_of {c : Code} {Q : Exit → Act → World → Prop} (h : LoopWp P c Q a w) : (Code.loop c).wp P Q a w := fun b k cs =>
  let ⟨e, a', w', q, r⟩ := h b k cs; ⟨e, a', w', q, .of_steps (.one step_loop) r⟩

theorem loop_round {c : Code} {Q : Exit → Act → World → Prop} (h : c.wp P (Exit.then (LoopWp P c Q) Q) a w) : LoopWp P c Q a w := by
  intro b k cs
  obtain ⟨e, a₁, w₁, hq, harr⟩ := h b (.inLoop c :: k) cs
  cases e with
  | normal =>
    obtain ⟨e₂, a₂, w₂, hq₂, harr₂⟩ := hq b k cs
    exact ⟨e₂, a₂, w₂, hq₂, .of_steps (Steps.trans harr (.one step_inLoop)) harr₂⟩
  | exit id => exact ⟨_, a₁, w₁, hq, .pass (x := .inLoop c) rfl (fun _ _ => .inl (by simp)) harr⟩
  | goto l => exact ⟨_, a₁, w₁, hq, .pass (x := .inLoop c) rfl (fun _ _ => .inl (by simp)) harr⟩
  | ret => exact ⟨_, a₁, w₁, hq, .pass (x := .inLoop c) rfl (fun _ _ => .inl (by simp)) harr⟩
  | panic ch => exact ⟨_, a₁, w₁, hq, .pass (x := .inLoop c) rfl (fun _ _ => .inl (by simp)) harr⟩
  | outgrown => exact ⟨_, a₁, w₁, hq, .pass (x := .inLoop c) rfl (fun _ _ => .inl (by simp)) harr⟩

/-- A scope of which 'rest' is still to run. -/
def ScopeWp (P : Program) (c rest : Code) (Q : Exit → Act → World → Prop) (a : Act) (w : World) : Prop :=
  ∀ (b : Frame) (k : List Item) (cs : List Frame), ∃ e a' w', Q e a' w' ∧ Arrives P (lone (b.at a (.code rest :: .inScope c :: k)) cs w) b k cs e a' w'

def ScopeQ (P : Program) (c : Code) (Q : Exit → Act → World → Prop) : Exit → Act → World → Prop
  | .goto l, a, w => ∃ rest, findLabel c l = some rest ∧ ScopeWp P c rest Q a w
  | e, a, w => Q e a w

theorem scope_of {c : Code} {Q : Exit → Act → World → Prop} (h : ScopeWp P c c Q a w) : (Code.scope c).wp P Q a w := fun b k cs =>
  let ⟨e, a', w', q, r⟩ := h b k cs; ⟨e, a', w', q, .of_steps (.one step_scope) r⟩

theorem scope_round {c rest : Code} {Q : Exit → Act → World → Prop} (h : rest.wp P (ScopeQ P c Q) a w) : ScopeWp P c rest Q a w := by
  intro b k cs
  obtain ⟨e, a₁, w₁, hq, harr⟩ := h b (.inScope c :: k) cs
  cases e with
  | normal => exact ⟨.normal, a₁, w₁, hq, Steps.trans harr (.one step_inScope)⟩
  | exit id => exact ⟨.exit id, a₁, w₁, hq, fun k' hk => harr k' (by simp [exitTo, hk])⟩
  | goto l =>
    obtain ⟨r', hf, hs⟩ := hq
    obtain ⟨e₂, a₂, w₂, hq₂, harr₂⟩ := hs b k cs
    exact ⟨e₂, a₂, w₂, hq₂, .of_steps (harr _ (by simp [gotoIn, hf])) harr₂⟩
  | ret => exact ⟨_, a₁, w₁, hq, harr⟩
  | panic ch => exact ⟨_, a₁, w₁, hq, harr⟩
  | outgrown => exact ⟨_, a₁, w₁, hq, harr⟩

theorem code_sound (hS : Sound P call) (hm : P.follows .mixedOrders = true) {fuel : Nat} : ∀ (d : Nat) (c : Code) (ac : ACode) (G : Gh) (a : Act) (s : St) (w : World) (e : AExit) (s' : St), okCode P N c ac = true → FInv G0 w0 L N G a s w →
    evC call fuel d ac s = some (e, s') → ∀ (Q : Exit → Act → World → Prop), (∀ G' a' w', FInv G0 w0 L N G' a' s' w' → Q (toExit e) a' w') → c.wp P Q a w := by
  intro d
  induction d with
  | zero => intro c ac G a s w e s' _ _ hx; cases hx
  | succ d ih =>
    intro c ac G a s w e s' hk h hx Q hQ
    by_cases hclr : ∃ cl dr b, ac = .clr cl dr b
    · obtain ⟨cl, dr, b, rfl⟩ := hclr
      have hk' : okCode P N c b = true := by cases c <;> simpa [okCode] using hk
      simp only [evC] at hx
      obtain ⟨s1, h1, h2⟩ := bind_some_iff.1 hx
      obtain ⟨G1, hF⟩ := FInv.drops dr (h.erase cl) h1
      exact ih c b G1 a s1 w e s' hk' hF h2 Q hQ
    have hnc : ∀ cl dr b, ac ≠ .clr cl dr b := fun cl dr b he => hclr ⟨cl, dr, b, he⟩
    clear hclr
    cases c with
    | skip =>
      cases ac <;> first | exact absurd rfl (hnc _ _ _) | skip
      all_goals simp [okCode] at hk
      simp only [evC, Option.some.injEq, Prod.mk.injEq] at hx
      obtain ⟨rfl, rfl⟩ := hx
      exact wp_skip (hQ G a w h)
    | region id ops draw =>
      cases ac <;> first | exact absurd rfl (hnc _ _ _) | skip
      all_goals simp [okCode] at hk
      rename_i l cl dr
      simp only [evC] at hx
      obtain ⟨s1, h1, h2⟩ := bind_some_iff.1 hx
      obtain ⟨s2, h3, h4⟩ := Option.map_eq_some_iff.1 h2
      injection h4 with e1 e2
      subst e1 e2
      have fin : ∀ G' a' w', FInv G0 w0 L N G' a' s1 w' → Q .normal a' w' := by
        intro G' a' w' hF
        obtain ⟨G2, hF2⟩ := FInv.drops dr (hF.erase cl) h3
        exact hQ G2 a' w' hF2
      cases draw with
      | false => exact region_sound hS hk.1 h h1 fin
      | true => exact draw_sound hS hm hk.1 (by simpa using hk.2) h h1 fin
    | seq x y =>
      cases ac <;> first | exact absurd rfl (hnc _ _ _) | skip
      all_goals simp [okCode] at hk
      rename_i x' y'
      simp only [evC] at hx
      obtain ⟨⟨e1, s1⟩, h1, h2⟩ := bind_some_iff.1 hx
      refine wp_seq ?_
      refine ih x x' G a s w e1 s1 hk.1 h h1 _ (fun G' a' w' hF => ?_)
      cases e1 with
      | normal => exact ih y y' G' a' s1 w' e s' hk.2 hF h2 Q hQ
      | exit id =>
        simp only [Option.some.injEq, Prod.mk.injEq] at h2
        obtain ⟨rfl, rfl⟩ := h2
        exact hQ G' a' w' hF
      | goto l =>
        simp only [Option.some.injEq, Prod.mk.injEq] at h2
        obtain ⟨rfl, rfl⟩ := h2
        exact hQ G' a' w' hF
      | ret =>
        simp only [Option.some.injEq, Prod.mk.injEq] at h2
        obtain ⟨rfl, rfl⟩ := h2
        exact hQ G' a' w' hF
    | cond c x y =>
      cases ac <;> first | exact absurd rfl (hnc _ _ _) | skip
      all_goals simp [okCode] at hk
      rename_i c' x' y'
      simp only [evC] at hx
      split at hx
      · rename_i t ht
        have hr := okArg_sound h.slots hk.1.1
        rw [ht] at hr
        refine wp_cond hr.bool_inv ?_
        cases t with
        | true => exact ih x x' G a s w e s' hk.1.2 h hx Q hQ
        | false => exact ih y y' G a s w e s' hk.2 h hx Q hQ
      · cases hx
    | block id b =>
      cases ac <;> first | exact absurd rfl (hnc _ _ _) | skip
      all_goals simp [okCode] at hk
      rename_i id' b'
      obtain ⟨rfl, hk⟩ := hk
      simp only [evC] at hx
      obtain ⟨⟨e1, s1⟩, h1, h2⟩ := bind_some_iff.1 hx
      refine wp_block ?_
      refine ih b b' G a s w e1 s1 hk h h1 _ (fun G' a' w' hF => ?_)
      cases e1 with
      | exit id1 =>
        simp only [blockExit] at h2
        show (if id1 = id then Q .normal a' w' else Q (.exit id1) a' w')
        by_cases hid : id1 = id
        · simp only [hid, if_true, Option.some.injEq, Prod.mk.injEq] at h2 ⊢
          obtain ⟨rfl, rfl⟩ := h2
          exact hQ G' a' w' hF
        · simp only [hid, if_false, Option.some.injEq, Prod.mk.injEq] at h2 ⊢
          obtain ⟨rfl, rfl⟩ := h2
          exact hQ G' a' w' hF
      | normal =>
        simp only [blockExit, Option.some.injEq, Prod.mk.injEq] at h2
        obtain ⟨rfl, rfl⟩ := h2
        exact hQ G' a' w' hF
      | goto l =>
        simp only [blockExit, Option.some.injEq, Prod.mk.injEq] at h2
        obtain ⟨rfl, rfl⟩ := h2
        exact hQ G' a' w' hF
      | ret =>
        simp only [blockExit, Option.some.injEq, Prod.mk.injEq] at h2
        obtain ⟨rfl, rfl⟩ := h2
        exact hQ G' a' w' hF
    | loop b =>
      cases ac <;> first | exact absurd rfl (hnc _ _ _) | skip
      all_goals simp [okCode] at hk
      rename_i b'
      simp only [evC] at hx
      refine loop_of ?_
      have key : ∀ (n : Nat) (G : Gh) (a : Act) (s : St) (w : World), FInv G0 w0 L N G a s w → iterL (evC call fuel d b') n s = some (e, s') → LoopWp P b Q a w := by
        intro n
        induction n with
        | zero => intro G a s w _ hx; cases hx
        | succ n ihn =>
          intro G a s w h hx
          simp only [iterL] at hx
          obtain ⟨⟨e1, s1⟩, h1, h2⟩ := bind_some_iff.1 hx
          refine loop_round ?_
          refine ih b b' G a s w e1 s1 hk h h1 _ (fun G' a' w' hF => ?_)
          cases e1 with
          | normal => exact ihn G' a' s1 w' hF h2
          | exit id =>
            simp only [Option.some.injEq, Prod.mk.injEq] at h2
            obtain ⟨rfl, rfl⟩ := h2
            exact hQ G' a' w' hF
          | goto l =>
            simp only [Option.some.injEq, Prod.mk.injEq] at h2
            obtain ⟨rfl, rfl⟩ := h2
            exact hQ G' a' w' hF
          | ret =>
            simp only [Option.some.injEq, Prod.mk.injEq] at h2
            obtain ⟨rfl, rfl⟩ := h2
            exact hQ G' a' w' hF
      exact key fuel G a s w h hx
    | rangeFunc f ps as b => cases ac <;> first | exact absurd rfl (hnc _ _ _) | (simp [okCode] at hk)
    | exit id =>
      cases ac <;> first | exact absurd rfl (hnc _ _ _) | skip
      all_goals simp [okCode] at hk
      subst hk
      simp only [evC, Option.some.injEq, Prod.mk.injEq] at hx
      obtain ⟨rfl, rfl⟩ := hx
      exact wp_exit (hQ G a w h)
    | scope b =>
      cases ac <;> first | exact absurd rfl (hnc _ _ _) | skip
      all_goals simp [okCode] at hk
      rename_i b'
      simp only [evC] at hx
      refine scope_of ?_
      have key : ∀ (n : Nat) (rest : Code) (rest' : ACode) (G : Gh) (a : Act) (s : St) (w : World), okCode P N rest rest' = true → FInv G0 w0 L N G a s w →
          iterS (fun l s' => (findL b' l).map fun rest => evC call fuel d rest s') n (evC call fuel d rest' s) = some (e, s') → ScopeWp P b rest Q a w := by
        intro n
        induction n with
        | zero => intro rest rest' G a s w _ _ hx; cases hx
        | succ n ihn =>
          intro rest rest' G a s w hkr h hx
          simp only [iterS] at hx
          obtain ⟨⟨e1, s1⟩, h1, h2⟩ := bind_some_iff.1 hx
          refine scope_round ?_
          refine ih rest rest' G a s w e1 s1 hkr h h1 _ (fun G' a' w' hF => ?_)
          cases e1 with
          | goto l =>
            obtain ⟨r', h3, h4⟩ := bind_some_iff.1 h2
            obtain ⟨rest2, h5, h6⟩ := Option.map_eq_some_iff.1 h3
            subst h6
            obtain ⟨r0, h7, h8⟩ := findL_ok hk h5
            exact ⟨r0, h7, ihn r0 rest2 G' a' s1 w' h8 hF h4⟩
          | normal =>
            simp only [Option.some.injEq, Prod.mk.injEq] at h2
            obtain ⟨rfl, rfl⟩ := h2
            exact hQ G' a' w' hF
          | exit id =>
            simp only [Option.some.injEq, Prod.mk.injEq] at h2
            obtain ⟨rfl, rfl⟩ := h2
            exact hQ G' a' w' hF
          | ret =>
            simp only [Option.some.injEq, Prod.mk.injEq] at h2
            obtain ⟨rfl, rfl⟩ := h2
            exact hQ G' a' w' hF
      exact key fuel b b' G a s w hk h hx
    | label l =>
      cases ac <;> first | exact absurd rfl (hnc _ _ _) | skip
      all_goals simp [okCode] at hk
      simp only [evC, Option.some.injEq, Prod.mk.injEq] at hx
      obtain ⟨rfl, rfl⟩ := hx
      exact wp_label (hQ G a w h)
    | goto l =>
      cases ac <;> first | exact absurd rfl (hnc _ _ _) | skip
      all_goals simp [okCode] at hk
      subst hk
      simp only [evC, Option.some.injEq, Prod.mk.injEq] at hx
      obtain ⟨rfl, rfl⟩ := hx
      exact wp_goto (hQ G a w h)
    | ret =>
      cases ac <;> first | exact absurd rfl (hnc _ _ _) | skip
      all_goals simp [okCode] at hk
      simp only [evC, Option.some.injEq, Prod.mk.injEq] at hx
      obtain ⟨rfl, rfl⟩ := hx
      exact wp_ret (hQ G a w h)
    | refuse why => cases ac <;> first | exact absurd rfl (hnc _ _ _) | (simp [okCode] at hk)

/-! ### Functions -/

def okRes1 (P : Program) : ResultVar → ARes → Bool
  | .tmp t, .a (.t t') => t == t'
  | .cell t ty, .b t' n => t == t' && varIs P ty n
  | _, _ => false

def okRes (P : Program) : List ResultVar → List ARes → Bool
  | [], [] => true
  | r :: rs, x :: xs => okRes1 P r x && okRes P rs xs
  | _, _ => false

def okFunc (P : Program) (f : Nat) (af : AFunc) : Bool :=
  match P.funcs[f]? with
  | some fn => fn.name != "runtime.NumGoroutine" && Nat.ble af.nparams fn.ntmps && okRes P fn.results.toList af.results && (match fn.body with | some c => okCode P fn.ntmps c af.body | none => false)
  | none => false

theorem resOne_run (h : FInv G0 w0 L N G a s w) {r : ResultVar} {x : ARes} {v : V} (hk : okRes1 P r x = true) (hx : resOne s x = some v) :
    ∃ cv, (match r with | .tmp t => pure (a.tmps.getD t Go.undef) | .cell t ty => (do loadVar ty (← asAddr (a.tmps.getD t Go.undef)) : Sem Value) : Sem Value).run P w = .ok cv w ∧ SRep G cv v := by
  cases r with
  | tmp t =>
    cases x with
    | b => simp [okRes1] at hk
    | a ar =>
      cases ar <;> simp [okRes1] at hk
      subst hk
      simp only [resOne, readArg, Option.some.injEq] at hx
      subst hx
      exact ⟨_, rfl, (h.slots t).strip.strip⟩
  | cell t ty =>
    cases x with
    | a ar => cases ar <;> simp [okRes1] at hk
    | b t' n =>
      simp only [okRes1, Bool.and_eq_true, beq_iff_eq] at hk
      obtain ⟨rfl, hk⟩ := hk
      obtain ⟨j, d, c1, c2, c3⟩ := varD hk
      simp only [resOne] at hx
      split at hx
      · rename_i l k off he
        have hp := h.slots t
        rw [he] at hp
        obtain ⟨b, ⟨hlt, hlam⟩, hpe⟩ := hp.ptr_inv
        obtain ⟨cs, hm, hy⟩ := bind_some_iff.1 hx
        split at hy
        case isFalse => cases hy
        rename_i hall
        have hbox := h.inv.mem l k cs hm
        obtain ⟨b', cur, e, d1, d2, d3, d4, d5⟩ := hbox.ex
        rw [hlam] at d1
        cases d1
        have hrd := d4.drop off
        have hcell : ∀ i u, (cur.toList.drop off)[i]? = some u → w.cell? ⟨b, off + i, none⟩ = some u := by
          intro i u hu
          rw [List.getElem?_drop] at hu
          rw [cell_of_heap d3]; simpa using hu
        obtain ⟨cv, e1, e2⟩ := s_loadAt (P := P) (w := w) c1 c2 c3 hcell hrd hy (fun hn => by
          cases n with
          | none => exact absurd rfl hn
          | some _ => simpa using hall)
        refine ⟨cv, ?_, e2⟩
        simp only [hpe, asAddr, Sem.run_bind, Sem.run_pure, Result.andThen_ok]
        simpa [Instr.loadAt, Instr.sureAddr] using e1
      · cases hx

theorem resAll_run (h : FInv G0 w0 L N G a s w) : ∀ {rs : List ResultVar} {xs : List ARes} {vs : List V}, okRes P rs xs = true → resAll s xs = some vs →
    ∃ cvs : List Value, (rs.mapM fun (r : ResultVar) => (match r with | .tmp t => pure (a.tmps.getD t Go.undef) | .cell t ty => (do loadVar ty (← asAddr (a.tmps.getD t Go.undef)) : Sem Value) : Sem Value)).run P w = .ok cvs w ∧ SRepL G cvs vs
  | [], [], vs, _, hx => by
    simp only [resAll, Option.some.injEq] at hx
    subst hx
    exact ⟨[], by simp, .nil⟩
  | r :: rs, x :: xs, vs, hk, hx => by
    simp only [okRes, Bool.and_eq_true] at hk
    simp only [resAll] at hx
    obtain ⟨v, h1, h2⟩ := bind_some_iff.1 hx
    obtain ⟨vs', h3, rfl⟩ := Option.map_eq_some_iff.1 h2
    obtain ⟨cv, e1, e2⟩ := resOne_run h hk.1 h1
    obtain ⟨cvs, e3, e4⟩ := resAll_run h hk.2 h3
    refine ⟨cv :: cvs, ?_, .cons e2 e4⟩
    simp only [List.mapM_cons, Sem.run_bind, e1, e3, Result.andThen_ok, Sem.run_pure]
  | [], _ :: _, _, hk, _ => by cases hk
  | _ :: _, [], _, hk, _ => by cases hk

theorem initEnv_get : ∀ (xs : List V) (i t : Nat), get (initEnv i xs) t = .junk ∨ ∃ x, (i ≤ t ∧ xs[t - i]? = some x) ∧ get (initEnv i xs) t = x.strip
  | [], i, t => .inl rfl
  | x :: xs, i, t => by
    simp only [initEnv, get]
    by_cases h : i = t
    · subst h
      exact .inr ⟨x, ⟨Nat.le_refl _, by simp⟩, by simp⟩
    · rw [beq_ne h]
      rcases initEnv_get xs (i + 1) t with h1 | ⟨y, ⟨h1, h2⟩, h3⟩
      · exact .inl h1
      · refine .inr ⟨y, ⟨by omega, ?_⟩, h3⟩
        rw [show t - i = (t - (i + 1)) + 1 by omega]
        simpa using h2

theorem repOfAll {G : Gh} : ∀ {vs : List Value} {xs : List V}, SRepL G vs xs → (∀ x ∈ xs, isLocal x = false) → RepL G.K vs xs
  | _, _, .nil, _ => .nil
  | _, _, .cons r rs, h => .cons (r.toRep (h _ (by simp))) (repOfAll rs (fun x hx => h x (by simp [hx])))

theorem SRepL.lower {G : Gh} {l' : Nat} : ∀ {vs : List Value} {xs : List V} {l : Nat}, l < l' → SRepL G vs xs → (∀ c ∈ xs, dataCell l c = true) → SRepL { G with lv := l' } vs xs
  | _, _, _, _, .nil, _ => .nil
  | _, _, l, hl, .cons r rs, h => by
    refine .cons ?_ (SRepL.lower hl rs (fun c hc => h c (by simp [hc])))
    have hd := h _ (List.mem_cons_self)
    cases r with
    | data r => exact .data r
    | ptr l1 t off b h1 h2 =>
      simp only [dataCell, Nat.ble_eq] at hd
      exact .ptr l1 t off b (by show l1 < l'; omega) h2
    | func fn f c f' c' h1 h2 =>
      simp [dataCell] at hd
      obtain ⟨rfl, rfl⟩ := hd
      cases h1; cases h2
      exact .func fn [] [] [] [] .nil .nil

theorem noPtr_rep {G : Gh} {l' : Nat} {v : Value} {x : V} (h : SRep G v x) (hx : noPtr l' x = true) : SRep { G with lv := l' } v x := by
  cases h with
  | data r => exact .data r
  | ptr l1 t off b h1 h2 =>
    simp [noPtr, noPtr1] at hx
    exact .ptr l1 t off b hx h2
  | func fn f c f' c' h1 h2 =>
    simp [noPtr, noPtr1] at hx
    obtain ⟨rfl, rfl⟩ := hx
    cases h1; cases h2
    exact .func fn [] [] [] [] .nil .nil

def packV : List Value → Value
  | [v] => v
  | cvs => .tuple cvs.toArray

theorem func_sound (hS : Sound P call) (hm : P.follows .mixedOrders = true) {f : Nat} {af : AFunc} (hok : okFunc P f af = true) {xs : List V} (hn : xs.length = af.nparams) {M M' : Mem} {r : V} {fuel d : Nat}
    (hx : (evC call fuel d af.body { env := initEnv 0 xs, mem := [] :: M }).bind (finish af) = some (r, M')) : CallsOK P f xs M r M' := by
  unfold okFunc at hok
  split at hok
  case h_2 => cases hok
  rename_i fn hfn
  simp only [Bool.and_eq_true, bne_iff_ne, ne_eq, Nat.ble_eq] at hok
  obtain ⟨⟨⟨hname, hnp⟩, hres⟩, hbody⟩ := hok
  split at hbody
  case h_2 => cases hbody
  rename_i c hc
  obtain ⟨⟨e, s'⟩, h1, h2⟩ := bind_some_iff.1 hx
  -- what the function's end gives
  have hfin : (e = .normal ∨ e = .ret) ∧ ∃ b, s'.mem = b :: M' ∧ resultOf s' af.results = some r ∧ noPtr M'.length r = true := by
    unfold finish at h2
    split at h2
    · rename_i s1 heq
      cases heq
      refine ⟨.inl rfl, ?_⟩
      split at h2
      · cases h2
      · rename_i b m hmem
        obtain ⟨v, h3, h4⟩ := bind_some_iff.1 h2
        split at h4
        · injection h4 with h4; injection h4 with e1 e2; subst e1 e2
          exact ⟨b, hmem, h3, by assumption⟩
        · cases h4
    · rename_i s1 heq
      cases heq
      refine ⟨.inr rfl, ?_⟩
      split at h2
      · cases h2
      · rename_i b m hmem
        obtain ⟨v, h3, h4⟩ := bind_some_iff.1 h2
        split at h4
        · injection h4 with h4; injection h4 with e1 e2; subst e1 e2
          exact ⟨b, hmem, h3, by assumption⟩
        · cases h4
    · cases h2
  obtain ⟨hee, b, hmem, hro, hnop⟩ := hfin
  have hcallable : callable P f = true := by
    unfold callable
    rw [hfn]
    simp [hname, hc]
  refine ⟨hcallable, fun G w cargs hinv hph hargs => ?_⟩
  have hcl := hargs.length
  simp only [Array.length_toList] at hcl
  refine calls_of_wp hfn hc ?_
  let L := M.length
  let G1 : Gh := { G with lv := L + 1, lam := fun l t => if l = L then none else G.lam l t }
  have hlam : ∀ l t, l < L → G1.lam l t = G.lam l t := fun l t hl => if_neg (by omega)
  have gle : GLe G G1 := ⟨by rw [hinv.lv]; exact Nat.le_succ _, fun _ _ _ h => h, fun l t b hl hb => by rw [hlam l t (by rw [hinv.lv] at hl; exact hl)]; exact hb⟩
  have hmg : ∀ l t, mget ([] :: M) l t = mget M l t := by
    intro l t
    simp only [mget]
    by_cases hl : l = M.length
    · subst hl; rw [mget_none M _ t (Nat.le_refl _)]; simp [bget]
    · rw [beq_ne hl]; rfl
  have hsz : (cargs ++ Array.replicate (fn.ntmps - cargs.size) Go.undef).size = fn.ntmps := by simp; omega
  have hF : FInv G w L fn.ntmps G1 { tmps := cargs ++ Array.replicate (fn.ntmps - cargs.size) Go.undef, defers := [] } { env := initEnv 0 xs, mem := [] :: M } w := by
    refine ⟨⟨rfl, hinv.kh, fun l t cs hm' => ?_, fun l t hl hm' => ?_, fun l t b hb => ?_, hinv.phiL⟩, rfl, hsz, rfl, fun t => ?_, fun t sz ys hg => ?_, ⟨fun _ _ _ h => h, fun l t hl => hlam l t hl, Nat.le_refl _, rfl, rfl, rfl, fun _ _ _ => ⟨rfl, fun _ => rfl, rfl⟩, fun _ _ _ _ h => h⟩, hph, fun b l t hb => Nat.le_of_lt (hph b l t hb)⟩
    · simp only [hmg] at hm'
      have hbox := hinv.mem l t cs hm'
      have hlt := mget_lt hm'
      obtain ⟨b', cur, e', c1, c2, c3, c4, c5⟩ := hbox.ex
      exact ⟨⟨b', cur, e', by rw [hlam l t hlt]; exact c1, c2, c3, c4.mono gle, c5⟩, hbox.dc⟩
    · simp only [hmg] at hm'
      by_cases hlL : l = L
      · exact if_pos hlL
      · have : l < L := by simp at hl; show l < M.length; have : l ≠ M.length := hlL; omega
        rw [hlam l t this]
        exact hinv.lamBox l t this hm'
    · by_cases hlL : l = L
      · have : G1.lam l t = none := if_pos hlL
        rw [this] at hb; cases hb
      · have : G1.lam l t = G.lam l t := if_neg hlL
        rw [this] at hb
        exact hinv.lamL l t b hb
    · rcases initEnv_get xs 0 t with h0 | ⟨x, ⟨_, hx'⟩, h0⟩
      · show SRep _ _ (get (initEnv 0 xs) t)
        rw [h0]; exact .data (.junk _)
      · show SRep _ _ (get (initEnv 0 xs) t)
        rw [h0]
        simp only [Nat.sub_zero] at hx'
        obtain ⟨v, hv, hr⟩ := hargs.get hx'
        have hlt : t < cargs.size := by rw [hcl]; exact (List.getElem?_eq_some_iff.1 hx').1
        have : (cargs ++ Array.replicate (fn.ntmps - cargs.size) Go.undef).getD t Go.undef = v := by
          simp only [Array.getD_eq_getD_getElem?, Array.getElem?_append_left hlt]
          have : cargs[t]? = some v := by simpa using hv
          rw [this]; rfl
        rw [this]
        exact (hr.mono gle).strip
    · exfalso
      replace hg : get (initEnv 0 xs) t = .list sz ys true := hg
      rcases initEnv_get xs 0 t with h0 | ⟨x, _, h0⟩
      · rw [h0] at hg; cases hg
      · rw [h0] at hg; exact strip_own _ _ _ hg
  refine code_sound hS hm d c af.body G1 _ _ w e s' hbody hF h1 _ (fun G' a' w' hF' => ?_)
  -- the end of the function
  have hlen : M'.length = L := by have := hF'.lvl; rw [hmem] at this; simpa using this
  have hend : ∀ (Q : Prop), (∀ v G'', (results fn a'.tmps).run P w' = .ok v w' → SRep G'' v r → Inv G'' w' M' → Ext L G w G'' w' → (∀ b l t, G''.phi b = some (.slot l t) → l < L) → Q) → Q := by
    intro Q hQ
    have hra : ∃ vs, resAll s' af.results = some vs ∧ r = (match vs with | [v] => v | vs => .tup vs) := by
      unfold resultOf at hro
      obtain ⟨vs, h3, h4⟩ := Option.map_eq_some_iff.1 hro
      exact ⟨vs, h3, h4.symm⟩
    obtain ⟨vs, hvs, hrv⟩ := hra
    obtain ⟨cvs, hcv, hcr⟩ := resAll_run hF' hres hvs
    let Ge : Gh := { G' with lv := L, phi := fun b => match G'.phi b with | some (.slot l t) => if l < L then some (.slot l t) else none | o => o }
    have hphi : ∀ b o, (∀ l t, o ≠ .slot l t) → G'.phi b = some o → Ge.phi b = some o := by
      intro b o ho hb
      show (match G'.phi b with | some (.slot l t) => if l < L then some (Own.slot l t) else none | o => o) = _
      rw [hb]
      cases o with
      | box l t => rfl
      | slot l t => exact absurd rfl (ho l t)
    have hge : ∀ {v x}, SRep { G' with lv := L } v x → SRep Ge v x := fun h => SRep.mono (G := { G' with lv := L }) (G' := Ge) ⟨Nat.le_refl _, fun _ _ _ h => h, fun _ _ _ _ h => h⟩ h
    have hinv' : Inv Ge w' M' := by
      refine ⟨hlen.symm, hF'.inv.kh, fun l t cs hm' => ?_, fun l t hl hm' => ?_, hF'.inv.lamL, fun bb hb => hF'.inv.phiL bb (fun h0 => hb ?_)⟩
      · have hlt := mget_lt hm'
        have hm2 : mget s'.mem l t = some cs := by
          rw [hmem]
          simp only [mget]
          rw [beq_ne (by omega)]
          exact hm'
        have hbox := hF'.inv.mem l t cs hm2
        obtain ⟨b', cur, e', c1, c2, c3, c4, c5⟩ := hbox.ex
        refine ⟨⟨b', cur, e', c1, hphi b' _ (by simp) c2, c3, ?_, c5⟩, hbox.dc⟩
        exact SRepL.mono (G := { G' with lv := L }) (G' := Ge) ⟨Nat.le_refl _, fun _ _ _ h => h, fun _ _ _ _ h => h⟩ (c4.lower (l' := L) (by rw [hlen] at hlt; exact hlt) hbox.dc)
      · refine hF'.inv.lamBox l t (by rw [hmem]; simp; omega) ?_
        rw [hmem]
        simp only [mget]
        rw [beq_ne (by omega)]
        exact hm'
      · show (match G'.phi bb with | some (.slot l t) => if l < L then some (Own.slot l t) else none | o => o) = _
        rw [h0]
    have hext : Ext L G w Ge w' := by
      refine ⟨hF'.ext.K, hF'.ext.lam, hF'.ext.size, hF'.ext.os, hF'.ext.tape, hF'.ext.output, fun bb hb hn => ?_, fun bb l t hl hb => ?_⟩
      · obtain ⟨e1, e2, e3⟩ := hF'.ext.blk bb hb hn
        refine ⟨e1, e2, ?_⟩
        show (match G'.phi bb with | some (.slot l t) => if l < L then some (Own.slot l t) else none | o => o) = _
        rw [e3]
        cases hp : G.phi bb with
        | none => rfl
        | some o =>
          cases o with
          | box l t => rfl
          | slot l t => simp only; rw [if_pos (hph bb l t hp)]
      · exact hphi bb _ (by simp) (hF'.ext.box bb l t hl hb)
    have hfr : ∀ bb l t, Ge.phi bb = some (.slot l t) → l < L := by
      intro bb l t hb
      replace hb : (match G'.phi bb with | some (.slot l t) => if l < L then some (Own.slot l t) else none | o => o) = some (.slot l t) := hb
      split at hb
      · split at hb
        · rename_i hlt; cases hb; exact hlt
        · cases hb
      · rename_i hno
        exact absurd hb (hno l t)
    have hrun : (results fn a'.tmps).run P w' = .ok (packV cvs) w' := by
      have hcv' : (fn.results.mapM fun (r : ResultVar) => (match r with | .tmp t => pure (a'.tmps.getD t Go.undef) | .cell t ty => (do loadVar ty (← asAddr (a'.tmps.getD t Go.undef)) : Sem Value) : Sem Value)).run P w' = .ok cvs.toArray w' := by
        rw [Array.mapM_eq_mapM_toList]
        simp only [Sem.run_map, hcv, Result.andThen_ok]
      unfold results
      rw [Sem.run_bind]
      refine Eq.trans (congrArg (fun q => Result.andThen q _) hcv') ?_
      simp only [Result.andThen_ok, Sem.run_pure]
      congr 1
      match cvs with
      | [] => rfl
      | [v] => rfl
      | _ :: _ :: _ => simp [packV]
    have hrep : SRep Ge (packV cvs) r := by
      have tupcase : ∀ {us : List Value} {ys : List V}, SRepL G' us ys → noPtr M'.length (.tup ys) = true → SRep Ge (.tuple us.toArray) (.tup ys) := by
        intro us ys hu hn'
        have hl : ∀ y ∈ ys, isLocal y = false := by simpa [noPtr] using hn'
        have hz : RepL Ge.K us ys := repOfAll (G := G') hu hl
        exact .data (.tup _ _ hz)
      subst hrv
      cases hcr with
      | nil => exact tupcase .nil hnop
      | cons r1 rs =>
        cases rs with
        | nil =>
          rw [hlen] at hnop
          exact hge (noPtr_rep r1 hnop)
        | cons r2 rs => exact tupcase (.cons r1 (.cons r2 rs)) hnop
    exact hQ _ Ge hrun hrep hinv' hext hfr
  refine hend _ (fun v G'' q1 q2 q3 q4 q5 => ?_)
  rcases hee with rfl | rfl
  · exact ⟨hF'.defers, v, q1, v, G'', rfl, q2, q3, q4, q5, hlen⟩
  · exact ⟨hF'.defers, v, q1, v, G'', rfl, q2, q3, q4, q5, hlen⟩

/-- The evaluator is sound, if each function of the table is the program's and each contract that is handed in holds. -/
theorem evF_sound (hm : P.follows .mixedOrders = true) {A : Nat → Option AFunc} {prim : CallF} (hA : ∀ f af, A f = some af → okFunc P f af = true) (hP : Sound P prim) : ∀ n, Sound P (evF A prim n)
  | 0 => fun f xs M r M' hx => by cases hx
  | n + 1 => fun f xs M r M' hx => by
    unfold evF at hx
    split at hx
    · exact hP f xs M r M' hx
    · rename_i af haf
      split at hx
      · rename_i hn
        exact func_sound (evF_sound hm hA hP n) hm (hA f af haf) hn hx
      · cases hx

theorem ev_sound (hm : P.follows .mixedOrders = true) {A : Nat → Option AFunc} {prim : CallF} (hA : ∀ f af, A f = some af → okFunc P f af = true) (hP : Sound P prim) : Sound P (ev A prim) := fun f xs M r M' hx => by
  obtain ⟨n, hn⟩ := (ev_iff A prim f xs M (r, M')).1 hx
  exact evF_sound hm hA hP n f xs M r M' hn

end
end Go.Proofs.Ytgggjclhadlncaa.Ev

/- Code, and functions: what the evaluator answers, the model's call hands back. -/
import Derived.Test.YtpmpofcokkgfdaaGreatDoorEv10
namespace Go.Proofs.YtpmpofcokkgfdaaGreatDoor.Ev
open Go

def okCode (P : Program) (N : Nat) : Code → ACode → Bool
  | c, .clr _ _ b => okCode P N c b
  | .skip, .skip => true
  | .region _ ops draw, .ops l _ _ => okList P N ops ops.toList l && (!draw || drawOk ops l)
  | .region _ ops draw, .opsd l D alts _ _ => okList P N ops ops.toList l && (!draw || drawOkD ops l D alts)
  | .seq a b, .seq a' b' => okCode P N a a' && okCode P N b b'
  | .cond c a b, .cond c' a' b' => okArg c c' && okCode P N a a' && okCode P N b b'
  | .block id b, .block id' b' => id == id' && okCode P N b b'
  | .loop b, .loop b' => okCode P N b b'
  | .exit id, .exit id' => id == id'
  | .scope b, .scope b' => okCode P N b b'
  | .label l, .label l' => l == l'
  | .goto l, .goto l' => l == l'
  | .ret, .ret => true
  | _, _ => false

def toExit : AExit → Exit
  | .normal => .normal
  | .exit id => .exit id
  | .goto l => .goto l
  | .ret => .ret

theorem findL_none {P : Program} {N : Nat} : ∀ {ac : ACode} {c : Code} {l : Nat}, okCode P N c ac = true → findL ac l = none → findLabel c l = none := by
  intro ac
  induction ac with
  | clr cl dr b ih =>
    intro c l hk hf
    have hk' : okCode P N c b = true := by cases c <;> simpa [okCode] using hk
    exact ih hk' hf
  | seq a' b' iha ihb =>
    intro c l hk hf
    cases c <;> simp [okCode] at hk
    rename_i a b
    simp only [findL] at hf
    cases h1 : findL a' l with
    | some r => simp [h1] at hf
    | none =>
      simp only [h1] at hf
      simp only [findLabel, iha hk.1 h1]
      exact ihb hk.2 hf
  | label l' =>
    intro c l hk hf
    cases c <;> simp [okCode] at hk
    subst hk
    simp only [findL] at hf
    simp only [findLabel]
    split at hf
    · cases hf
    · rename_i h; rw [if_neg h]
  | _ => intro c l hk hf; cases c <;> first | rfl | (simp [okCode] at hk)

theorem findL_ok {P : Program} {N : Nat} : ∀ {ac : ACode} {c : Code} {rest : ACode} {l : Nat}, okCode P N c ac = true → findL ac l = some rest → ∃ r, findLabel c l = some r ∧ okCode P N r rest = true := by
  intro ac
  induction ac with
  | clr cl dr b ih =>
    intro c rest l hk hf
    have hk' : okCode P N c b = true := by cases c <;> simpa [okCode] using hk
    exact ih hk' hf
  | seq a' b' iha ihb =>
    intro c rest l hk hf
    cases c <;> simp [okCode] at hk
    rename_i a b
    simp only [findL] at hf
    cases h1 : findL a' l with
    | some r =>
      simp only [h1, Option.some.injEq] at hf
      subst hf
      obtain ⟨r0, e1, e2⟩ := iha hk.1 h1
      exact ⟨.seq r0 b, by simp [findLabel, e1], by simp [okCode, e2, hk.2]⟩
    | none =>
      simp only [h1] at hf
      obtain ⟨r0, e1, e2⟩ := ihb hk.2 hf
      exact ⟨r0, by simp [findLabel, findL_none hk.1 h1, e1], e2⟩
  | label l' =>
    intro c rest l hk hf
    cases c <;> simp [okCode] at hk
    subst hk
    simp only [findL] at hf
    split at hf
    · rename_i h
      injection hf with hf
      subst hf
      exact ⟨.skip, by simp only [findLabel]; rw [if_pos h], rfl⟩
    · cases hf
  | _ => intro c rest l hk hf; simp [findL] at hf

section
variable {P : Program} {call : CallF} {G0 : Gh} {w0 : World} {L N : Nat} {G : Gh} {a : Act} {s : St} {w : World}

/-- A loop that stands at a round's head. -/
def LoopWp (P : Program) (c : Code) (Q : Exit → Act → World → Prop) (a : Act) (w : World) : Prop :=
  ∀ (b : Frame) (k : List Item) (cs : List Frame), ∃ e a' w', Q e a' w' ∧ Arrives P (lone (b.at a (.code c :: .inLoop c :: k)) cs w) b k cs e a' w'

theorem loop_of {c : Code} {Q : Exit → Act → World → Prop} (h : LoopWp P c Q a w) : (Code.loop c).wp P Q a w := fun b k cs =>
  let ⟨e, a', w', q, r⟩ := h b k cs; ⟨e, a', w', q, .of_steps (.one step_loop) r⟩

theorem loop_round {c : Code} {Q : Exit → Act → World → Prop} (h : c.wp P (Exit.then (LoopWp P c Q) Q) a w) : LoopWp P c Q a w := by
  intro b k cs
  obtain ⟨e, a₁, w₁, hq, harr⟩ := h b (.inLoop c :: k) cs
  cases e with
  | normal =>
    obtain ⟨e₂, a₂, w₂, hq₂, harr₂⟩ := hq b k cs
    exact ⟨e₂, a₂, w₂, hq₂, .of_steps (Steps.trans harr (.one step_inLoop)) harr₂⟩
  | exit id => exact ⟨_, a₁, w₁, hq, .pass (x := .inLoop c) rfl (fun _ _ => .inl (by simp)) harr⟩
  | goto l => exact ⟨_, a₁, w₁, hq, .pass (x := .inLoop c) rfl (fun _ _ => .inl (by simp)) harr⟩
  | ret => exact ⟨_, a₁, w₁, hq, .pass (x := .inLoop c) rfl (fun _ _ => .inl (by simp)) harr⟩
  | panic ch => exact ⟨_, a₁, w₁, hq, .pass (x := .inLoop c) rfl (fun _ _ => .inl (by simp)) harr⟩
  | outgrown => exact ⟨_, a₁, w₁, hq, .pass (x := .inLoop c) rfl (fun _ _ => .inl (by simp)) harr⟩

/-- A scope of which 'rest' is still to run. -/
def ScopeWp (P : Program) (c rest : Code) (Q : Exit → Act → World → Prop) (a : Act) (w : World) : Prop :=
  ∀ (b : Frame) (k : List Item) (cs : List Frame), ∃ e a' w', Q e a' w' ∧ Arrives P (lone (b.at a (.code rest :: .inScope c :: k)) cs w) b k cs e a' w'

def ScopeQ (P : Program) (c : Code) (Q : Exit → Act → World → Prop) : Exit → Act → World → Prop
  | .goto l, a, w => ∃ rest, findLabel c l = some rest ∧ ScopeWp P c rest Q a w
  | e, a, w => Q e a w

theorem scope_of {c : Code} {Q : Exit → Act → World → Prop} (h : ScopeWp P c c Q a w) : (Code.scope c).wp P Q a w := fun b k cs =>
  let ⟨e, a', w', q, r⟩ := h b k cs; ⟨e, a', w', q, .of_steps (.one step_scope) r⟩

theorem scope_round {c rest : Code} {Q : Exit → Act → World → Prop} (h : rest.wp P (ScopeQ P c Q) a w) : ScopeWp P c rest Q a w := by
  intro b k cs
  obtain ⟨e, a₁, w₁, hq, harr⟩ := h b (.inScope c :: k) cs
  cases e with
  | normal => exact ⟨.normal, a₁, w₁, hq, Steps.trans harr (.one step_inScope)⟩
  | exit id => exact ⟨.exit id, a₁, w₁, hq, fun k' hk => harr k' (by simp [exitTo, hk])⟩
  | goto l =>
    obtain ⟨r', hf, hs⟩ := hq
    obtain ⟨e₂, a₂, w₂, hq₂, harr₂⟩ := hs b k cs
    exact ⟨e₂, a₂, w₂, hq₂, .of_steps (harr _ (by simp [gotoIn, hf])) harr₂⟩
  | ret => exact ⟨_, a₁, w₁, hq, harr⟩
  | panic ch => exact ⟨_, a₁, w₁, hq, harr⟩
  | outgrown => exact ⟨_, a₁, w₁, hq, harr⟩

theorem code_sound [Base] (hS : Sound P call) (hB : BaseOK G0 w0) (hm : P.follows .mixedOrders = true) {fuel : Nat} : ∀ (d : Nat) (c : Code) (ac : ACode) (G : Gh) (a : Act) (s : St) (w : World) (e : AExit) (s' : St), okCode P N c ac = true → FInv G0 w0 L N G a s w →
    evC call fuel d ac s = some (e, s') → ∀ (Q : Exit → Act → World → Prop), (∀ G' a' w', FInv G0 w0 L N G' a' s' w' → Q (toExit e) a' w') → c.wp P Q a w := by
  intro d
  induction d with
  | zero => intro c ac G a s w e s' _ _ hx; cases hx
  | succ d ih =>
    intro c ac G a s w e s' hk h hx Q hQ
    by_cases hclr : ∃ cl dr b, ac = .clr cl dr b
    · obtain ⟨cl, dr, b, rfl⟩ := hclr
      have hk' : okCode P N c b = true := by cases c <;> simpa [okCode] using hk
      simp only [evC] at hx
      obtain ⟨s1, h1, h2⟩ := bind_some_iff.1 hx
      obtain ⟨G1, hF⟩ := FInv.drops dr (h.erase cl) h1
      exact ih c b G1 a s1 w e s' hk' hF h2 Q hQ
    have hnc : ∀ cl dr b, ac ≠ .clr cl dr b := fun cl dr b he => hclr ⟨cl, dr, b, he⟩
    clear hclr
    cases c with
    | skip =>
      cases ac <;> first | exact absurd rfl (hnc _ _ _) | skip
      all_goals simp [okCode] at hk
      simp only [evC, Option.some.injEq, Prod.mk.injEq] at hx
      obtain ⟨rfl, rfl⟩ := hx
      exact wp_skip (hQ G a w h)
    | region id ops draw =>
      cases ac <;> first | exact absurd rfl (hnc _ _ _) | skip
      all_goals simp [okCode] at hk
      · rename_i l cl dr
        simp only [evC] at hx
        obtain ⟨s1, h1, h2⟩ := bind_some_iff.1 hx
        obtain ⟨s2, h3, h4⟩ := Option.map_eq_some_iff.1 h2
        injection h4 with e1 e2
        subst e1 e2
        have fin : ∀ G' a' w', FInv G0 w0 L N G' a' s1 w' → Q .normal a' w' := by
          intro G' a' w' hF
          obtain ⟨G2, hF2⟩ := FInv.drops dr (hF.erase cl) h3
          exact hQ G2 a' w' hF2
        cases draw with
        | false => exact region_sound hS hB hk.1 h h1 fin
        | true => exact draw_sound hS hB hm hk.1 (by simpa using hk.2) h h1 fin
      · rename_i l D alts cl dr
        simp only [evC] at hx
        obtain ⟨s1, h0, h2⟩ := bind_some_iff.1 hx
        have h1 := (evOpsD_some.1 h0).1
        obtain ⟨s2, h3, h4⟩ := Option.map_eq_some_iff.1 h2
        injection h4 with e1 e2
        subst e1 e2
        have fin : ∀ G' a' w', FInv G0 w0 L N G' a' s1 w' → Q .normal a' w' := by
          intro G' a' w' hF
          obtain ⟨G2, hF2⟩ := FInv.drops dr (hF.erase cl) h3
          exact hQ G2 a' w' hF2
        cases draw with
        | false => exact region_sound hS hB hk.1 h h1 fin
        | true => exact drawD_sound hS hB hm hk.1 (by simpa using hk.2) h h0 fin
    | seq x y =>
      cases ac <;> first | exact absurd rfl (hnc _ _ _) | skip
      all_goals simp [okCode] at hk
      rename_i x' y'
      simp only [evC] at hx
      obtain ⟨⟨e1, s1⟩, h1, h2⟩ := bind_some_iff.1 hx
      refine wp_seq ?_
      refine ih x x' G a s w e1 s1 hk.1 h h1 _ (fun G' a' w' hF => ?_)
      cases e1 with
      | normal => exact ih y y' G' a' s1 w' e s' hk.2 hF h2 Q hQ
      | exit id =>
        simp only [Option.some.injEq, Prod.mk.injEq] at h2
        obtain ⟨rfl, rfl⟩ := h2
        exact hQ G' a' w' hF
      | goto l =>
        simp only [Option.some.injEq, Prod.mk.injEq] at h2
        obtain ⟨rfl, rfl⟩ := h2
        exact hQ G' a' w' hF
      | ret =>
        simp only [Option.some.injEq, Prod.mk.injEq] at h2
        obtain ⟨rfl, rfl⟩ := h2
        exact hQ G' a' w' hF
    | cond c x y =>
      cases ac <;> first | exact absurd rfl (hnc _ _ _) | skip
      all_goals simp [okCode] at hk
      rename_i c' x' y'
      simp only [evC] at hx
      split at hx
      · rename_i t ht
        have hr := okArg_sound h.slots hk.1.1
        rw [ht] at hr
        refine wp_cond hr.bool_inv ?_
        cases t with
        | true => exact ih x x' G a s w e s' hk.1.2 h hx Q hQ
        | false => exact ih y y' G a s w e s' hk.2 h hx Q hQ
      · cases hx
    | block id b =>
      cases ac <;> first | exact absurd rfl (hnc _ _ _) | skip
      all_goals simp [okCode] at hk
      rename_i id' b'
      obtain ⟨rfl, hk⟩ := hk
      simp only [evC] at hx
      obtain ⟨⟨e1, s1⟩, h1, h2⟩ := bind_some_iff.1 hx
      refine wp_block ?_
      refine ih b b' G a s w e1 s1 hk h h1 _ (fun G' a' w' hF => ?_)
      cases e1 with
      | exit id1 =>
        simp only [blockExit] at h2
        show (if id1 = id then Q .normal a' w' else Q (.exit id1) a' w')
        by_cases hid : id1 = id
        · simp only [hid, if_true, Option.some.injEq, Prod.mk.injEq] at h2 ⊢
          obtain ⟨rfl, rfl⟩ := h2
          exact hQ G' a' w' hF
        · simp only [hid, if_false, Option.some.injEq, Prod.mk.injEq] at h2 ⊢
          obtain ⟨rfl, rfl⟩ := h2
          exact hQ G' a' w' hF
      | normal =>
        simp only [blockExit, Option.some.injEq, Prod.mk.injEq] at h2
        obtain ⟨rfl, rfl⟩ := h2
        exact hQ G' a' w' hF
      | goto l =>
        simp only [blockExit, Option.some.injEq, Prod.mk.injEq] at h2
        obtain ⟨rfl, rfl⟩ := h2
        exact hQ G' a' w' hF
      | ret =>
        simp only [blockExit, Option.some.injEq, Prod.mk.injEq] at h2
        obtain ⟨rfl, rfl⟩ := h2
        exact hQ G' a' w' hF
    | loop b =>
      cases ac <;> first | exact absurd rfl (hnc _ _ _) | skip
      all_goals simp [okCode] at hk
      rename_i b'
      simp only [evC] at hx
      refine loop_of ?_
      have key : ∀ (n : Nat) (G : Gh) (a : Act) (s : St) (w : World), FInv G0 w0 L N G a s w → iterL (evC call fuel d b') n s = some (e, s') → LoopWp P b Q a w := by
        intro n
        induction n with
        | zero => intro G a s w _ hx; cases hx
        | succ n ihn =>
          intro G a s w h hx
          simp only [iterL] at hx
          obtain ⟨⟨e1, s1⟩, h1, h2⟩ := bind_some_iff.1 hx
          refine loop_round ?_
          refine ih b b' G a s w e1 s1 hk h h1 _ (fun G' a' w' hF => ?_)
          cases e1 with
          | normal => exact ihn G' a' s1 w' hF h2
          | exit id =>
            simp only [Option.some.injEq, Prod.mk.injEq] at h2
            obtain ⟨rfl, rfl⟩ := h2
            exact hQ G' a' w' hF
          | goto l =>
            simp only [Option.some.injEq, Prod.mk.injEq] at h2
            obtain ⟨rfl, rfl⟩ := h2
            exact hQ G' a' w' hF
          | ret =>
            simp only [Option.some.injEq, Prod.mk.injEq] at h2
            obtain ⟨rfl, rfl⟩ := h2
            exact hQ G' a' w' hF
      exact key fuel G a s w h hx
    | rangeFunc f ps as b => cases ac <;> first | exact absurd rfl (hnc _ _ _) | (simp [okCode] at hk)
    | exit id =>
      cases ac <;> first | exact absurd rfl (hnc _ _ _) | skip
      all_goals simp [okCode] at hk
      subst hk
      simp only [evC, Option.some.injEq, Prod.mk.injEq] at hx
      obtain ⟨rfl, rfl⟩ := hx
      exact wp_exit (hQ G a w h)
    | scope b =>
      cases ac <;> first | exact absurd rfl (hnc _ _ _) | skip
      all_goals simp [okCode] at hk
      rename_i b'
      simp only [evC] at hx
      refine scope_of ?_
      have key : ∀ (n : Nat) (rest : Code) (rest' : ACode) (G : Gh) (a : Act) (s : St) (w : World), okCode P N rest rest' = true → FInv G0 w0 L N G a s w →
          iterS (fun l s' => (findL b' l).map fun rest => evC call fuel d rest s') n (evC call fuel d rest' s) = some (e, s') → ScopeWp P b rest Q a w := by
        intro n
        induction n with
        | zero => intro rest rest' G a s w _ _ hx; cases hx
        | succ n ihn =>
          intro rest rest' G a s w hkr h hx
          simp only [iterS] at hx
          obtain ⟨⟨e1, s1⟩, h1, h2⟩ := bind_some_iff.1 hx
          refine scope_round ?_
          refine ih rest rest' G a s w e1 s1 hkr h h1 _ (fun G' a' w' hF => ?_)
          cases e1 with
          | goto l =>
            obtain ⟨r', h3, h4⟩ := bind_some_iff.1 h2
            obtain ⟨rest2, h5, h6⟩ := Option.map_eq_some_iff.1 h3
            subst h6
            obtain ⟨r0, h7, h8⟩ := findL_ok hk h5
            exact ⟨r0, h7, ihn r0 rest2 G' a' s1 w' h8 hF h4⟩
          | normal =>
            simp only [Option.some.injEq, Prod.mk.injEq] at h2
            obtain ⟨rfl, rfl⟩ := h2
            exact hQ G' a' w' hF
          | exit id =>
            simp only [Option.some.injEq, Prod.mk.injEq] at h2
            obtain ⟨rfl, rfl⟩ := h2
            exact hQ G' a' w' hF
          | ret =>
            simp only [Option.some.injEq, Prod.mk.injEq] at h2
            obtain ⟨rfl, rfl⟩ := h2
            exact hQ G' a' w' hF
      exact key fuel b b' G a s w hk h hx
    | label l =>
      cases ac <;> first | exact absurd rfl (hnc _ _ _) | skip
      all_goals simp [okCode] at hk
      simp only [evC, Option.some.injEq, Prod.mk.injEq] at hx
      obtain ⟨rfl, rfl⟩ := hx
      exact wp_label (hQ G a w h)
    | goto l =>
      cases ac <;> first | exact absurd rfl (hnc _ _ _) | skip
      all_goals simp [okCode] at hk
      subst hk
      simp only [evC, Option.some.injEq, Prod.mk.injEq] at hx
      obtain ⟨rfl, rfl⟩ := hx
      exact wp_goto (hQ G a w h)
    | ret =>
      cases ac <;> first | exact absurd rfl (hnc _ _ _) | skip
      all_goals simp [okCode] at hk
      simp only [evC, Option.some.injEq, Prod.mk.injEq] at hx
      obtain ⟨rfl, rfl⟩ := hx
      exact wp_ret (hQ G a w h)
    | refuse why => cases ac <;> first | exact absurd rfl (hnc _ _ _) | (simp [okCode] at hk)

/-! ### Functions -/

def ARes.owns : ARes → Bool
  | .a (.k _) => true
  | .bk _ => true
  | .z _ => true
  | _ => false

def okRes1 (P : Program) : ResultVar → ARes → Bool
  | .tmp t, .a (.t t') => t == t'
  | .tmp t, .a (.k t') => t == t'
  | .tmp t, .z t' => t == t'
  | .cell t ty, .b t' n => t == t' && varIs P ty n
  | .cell t ty, .bk t' => t == t' && varIs P ty none
  | _, _ => false

def okRes (P : Program) : List ResultVar → List ARes → Bool
  | [], [] => true
  | r :: rs, x :: xs => okRes1 P r x && okRes P rs xs
  | _, _ => false

/-- One result at most is handed on with what it owns. -/
def ownsOne (l : List ARes) : Bool := (l.filter ARes.owns).length ≤ 1

def okFunc (P : Program) (f : Nat) (af : AFunc) : Bool :=
  match P.funcs[f]? with
  | some fn => fn.name != "runtime.NumGoroutine" && Nat.ble af.nparams fn.ntmps && okRes P fn.results.toList af.results && ownsOne af.results && (match fn.body with | some c => okCode P fn.ntmps c af.body | none => false)
  | none => false

/-- What a result stands for as its function ends. -/
def ResOK (G : Gh) (w : World) (L : Nat) (x : ARes) (cv : Value) (v : V) : Prop :=
  (x.owns = false ∧ SRep G cv v ∧ noClaim v) ∨
  (x.owns = true ∧ SRep G cv v ∧ ((∀ vs, v ≠ .tup vs) ∧ ∀ n, v ≠ .fptr n) ∧ ∃ q, (∀ l t, q ≠ .box l t) ∧ (∀ l t i, l < L → q ≠ .slot l t i ∧ q ≠ .cell l t i) ∧ (∀ i, q ≠ .ret i) ∧ Claims G w (fun _ => q) cv v) ∨
  (x.owns = true ∧ ∃ b k cur e fz sz n cap cs, cv = .slice (some ⟨b, 0, none⟩) n cap ∧ v = .list sz (chunk sz n cs) true ∧ G.phi b = some (.box L k) ∧ w.heap[b]? = some (.cells cur e fz) ∧ cur.size = cap * sz ∧ n ≤ cap ∧ cap ≤ maxLen ∧ 0 < sz ∧
    cs.length = n * sz ∧ SRepL G (cur.toList.take (n * sz)) cs ∧ (∀ c ∈ cs, okc c = true) ∧ (∀ o, G.K b o = none) ∧ noFz fz cur.size)

theorem resOne_run (h : FInv G0 w0 L N G a s w) {r : ResultVar} {x : ARes} {v : V} (hk : okRes1 P r x = true) (hx : resOne s x = some v) :
    ∃ cv, (match r with | .tmp t => pure (a.tmps.getD t Go.undef) | .cell t ty => (do loadVar ty (← asAddr (a.tmps.getD t Go.undef)) : Sem Value) : Sem Value).run P w = .ok cv w ∧ ResOK G w L x cv v := by
  have hlv := h.lvl
  cases r with
  | tmp t =>
    cases x with
    | b => simp [okRes1] at hk
    | bk => simp [okRes1] at hk
    | a ar =>
      cases ar with
      | c => simp [okRes1] at hk
      | t t' =>
        simp [okRes1] at hk
        subst hk
        simp only [resOne, readArg, Option.some.injEq] at hx
        subst hx
        exact ⟨_, rfl, .inl ⟨rfl, (h.slots t).strip.strip, noClaim_strip _⟩⟩
      | k t' =>
        simp [okRes1] at hk
        subst hk
        simp only [resOne] at hx
        obtain ⟨h1, h2, h2'⟩ := notTup_some hx
        refine ⟨_, rfl, .inr (.inl ⟨rfl, by rw [← h1]; exact h.slots t, ⟨h2, h2'⟩, ?_⟩)⟩
        refine ⟨.slot L t 0, by simp, fun l t' i hl => ⟨by simp; omega, by simp⟩, by simp, fun i sz xs hc => ?_⟩
        have := h.own t
        rw [h1] at this
        have hi : i = 0 := by
          cases i with
          | zero => rfl
          | succ i =>
            cases v <;> simp [claim] at hc
            exact absurd rfl (h2 _)
        subst hi
        exact this 0 sz xs hc
    | z t' =>
      simp [okRes1] at hk
      subst hk
      simp only [resOne] at hx
      split at hx
      · rename_i l k sz n he
        have hp := h.slots t
        rw [he] at hp
        obtain ⟨b, nn, off, cap, ⟨g1, g2, g3⟩, hlc, hcap, hpe⟩ := hp.slc_inv
        obtain ⟨cs, hm, hy⟩ := bind_some_iff.1 hx
        split at hy
        · rename_i hh
          obtain ⟨q1, q2, q3, q4⟩ := hh
          injection hy with hy; subst hy
          have hlL : l = L := by omega
          subst hlL
          obtain ⟨⟨b', cur, e, fz, d1, d2, d3, d4, d5, d6, d7⟩, d8⟩ := (h.inv.mem l k cs hm).1 g2
          rw [g3] at d1
          cases d1
          rcases hcap with rfl | ⟨rfl, hcap⟩
          · have hn0 : n = 0 := by omega
            subst hn0
            refine ⟨_, rfl, .inr (.inl ⟨rfl, ?_, ⟨by simp, by simp⟩, .slot l 0 0, by simp, fun l t' i hl => ⟨by simp; omega, by simp⟩, by simp, fun i sz' xs hc => ?_⟩)⟩
            · rw [hpe]; exact .data (.lemp _ 0 sz true)
            · cases i with
              | succ i => cases hc
              | zero => cases hc; exact .inl ⟨rfl, _, hpe⟩
          · exact ⟨_, rfl, .inr (.inr ⟨rfl, b, k, cur, e, fz, sz, n, cap, cs, hpe, rfl, d2, d3.1, by omega, hlc.1, hlc.2, q1, q2, by rw [← q2]; exact d5, by simpa using q4, d6, d3.2⟩)⟩
        · cases hy
      · cases hx
  | cell t ty =>
    cases x with
    | a ar => cases ar <;> simp [okRes1] at hk
    | z => simp [okRes1] at hk
    | b t' n =>
      simp only [okRes1, Bool.and_eq_true, beq_iff_eq] at hk
      obtain ⟨rfl, hk⟩ := hk
      obtain ⟨j, d, c1, c2, c3⟩ := varD hk
      simp only [resOne] at hx
      split at hx
      · rename_i l k off he
        have hp := h.slots t
        rw [he] at hp
        obtain ⟨b, nn, ⟨hlt, hl1, hlam⟩, hpe⟩ := hp.ptr_inv
        obtain ⟨cs, hm, hy⟩ := bind_some_iff.1 hx
        obtain ⟨⟨b', cur, e, fz, d1, d2, d3, d4, d5, d6, d7⟩, d8⟩ := (h.inv.mem l k cs hm).1 hl1
        rw [hlam] at d1
        cases d1
        obtain ⟨cv, e1, e2⟩ := s_loadB (P := P) (w := w) c1 c2 c3 d3.1 d5 hy
        refine ⟨cv, ?_, .inl ⟨rfl, e2, loadB_noClaim hy⟩⟩
        simp only [hpe, asAddr, Sem.run_bind, Sem.run_pure, Result.andThen_ok]
        simpa [Instr.loadAt, Instr.sureAddr] using e1
      · cases hx
    | bk t' =>
      simp only [okRes1, Bool.and_eq_true, beq_iff_eq] at hk
      obtain ⟨rfl, hk⟩ := hk
      obtain ⟨j, d, c1, c2, c3⟩ := varD hk
      simp only [resOne] at hx
      split at hx
      · rename_i l k off he
        have hp := h.slots t
        rw [he] at hp
        obtain ⟨b, nn, ⟨hlt, hl1, hlam⟩, hpe⟩ := hp.ptr_inv
        obtain ⟨cs, hm, hy⟩ := bind_some_iff.1 hx
        split at hy
        · rename_i hlL
          have hlL' : l = L := by omega
          subst hlL'
          obtain ⟨⟨b', cur, e, fz, d1, d2, d3, d4, d5, d6, d7⟩, d8⟩ := (h.inv.mem l k cs hm).1 hl1
          rw [hlam] at d1
          cases d1
          have hlt' : off < cs.length := (List.getElem?_eq_some_iff.1 hy).1
          obtain ⟨cv, hcur⟩ : ∃ cv, cur[off]? = some cv := ⟨cur[off], Array.getElem?_eq_getElem (by omega)⟩
          have hrep : SRep G cv v := by
            obtain ⟨u, hu, hr⟩ := d5.get hy
            rw [List.getElem?_take, if_pos hlt'] at hu
            have : cur[off]? = some u := by simpa using hu
            rw [hcur] at this; cases this; exact hr
          have hdv := d8 v (List.mem_of_getElem? hy)
          have hnt : ∀ vs, v ≠ .tup vs := by rintro vs rfl; simp [dataCell] at hdv
          refine ⟨cv, ?_, .inr (.inl ⟨rfl, hrep, ⟨hnt, by rintro n rfl; simp [dataCell] at hdv⟩, ?_⟩)⟩
          · have hag : (isAgg ty).run P w = .ok false w := isAgg_no c2 c3
            have hcell : w.cell? ⟨b, off, none⟩ = some cv := by rw [cell_of_heap d3.1]; exact hcur
            simp only [hpe, asAddr, Sem.run_bind, Sem.run_pure, Result.andThen_ok, loadVar, hag, Bool.false_eq_true, if_false, run_load, hcell]
          · refine ⟨.cell l k off, by simp, fun l' t' i hl => ⟨by simp, by simp; omega⟩, by simp, fun i sz xs hc => ?_⟩
            have hi : i = 0 := by
              cases i with
              | zero => rfl
              | succ i =>
                cases v <;> simp [claim] at hc
                exact absurd rfl (hnt _)
            subst hi
            have hv : v = .list sz xs true := by
              cases v <;> simp [claim] at hc <;> try (simp [dataCell] at hdv; done)
              rename_i sz' xs' o'
              cases o' <;> simp [claim] at hc
              rw [hc.1, hc.2]
            subst hv
            exact d7 off sz xs cv hy hcur
        · cases hy
      · cases hx

theorem resAll_run (h : FInv G0 w0 L N G a s w) : ∀ {rs : List ResultVar} {xs : List ARes} {vs : List V}, okRes P rs xs = true → resAll s xs = some vs →
    ∃ cvs : List Value, (rs.mapM fun (r : ResultVar) => (match r with | .tmp t => pure (a.tmps.getD t Go.undef) | .cell t ty => (do loadVar ty (← asAddr (a.tmps.getD t Go.undef)) : Sem Value) : Sem Value)).run P w = .ok cvs w ∧ cvs.length = vs.length ∧ xs.length = vs.length ∧
      ∀ (i : Nat) (x : ARes) (cv : Value) (v : V), xs[i]? = some x → cvs[i]? = some cv → vs[i]? = some v → ResOK G w L x cv v
  | [], [], vs, _, hx => by
    simp only [resAll, Option.some.injEq] at hx
    subst hx
    exact ⟨[], by simp, rfl, rfl, by simp⟩
  | r :: rs, x :: xs, vs, hk, hx => by
    simp only [okRes, Bool.and_eq_true] at hk
    simp only [resAll] at hx
    obtain ⟨v, h1, h2⟩ := bind_some_iff.1 hx
    obtain ⟨vs', h3, rfl⟩ := Option.map_eq_some_iff.1 h2
    obtain ⟨cv, e1, e2⟩ := resOne_run h hk.1 h1
    obtain ⟨cvs, e3, e4, e5, e6⟩ := resAll_run h hk.2 h3
    refine ⟨cv :: cvs, ?_, by simp [e4], by simp [e5], fun i x' cv' v' hx' hc' hv' => ?_⟩
    · simp only [List.mapM_cons, Sem.run_bind, e1, e3, Result.andThen_ok, Sem.run_pure]
    · cases i with
      | zero => simp at hx' hc' hv'; subst hx' hc' hv'; exact e2
      | succ i => exact e6 i x' cv' v' (by simpa using hx') (by simpa using hc') (by simpa using hv')
  | [], _ :: _, _, hk, _ => by cases hk
  | _ :: _, [], _, hk, _ => by cases hk
theorem initEnv_get : ∀ (xs : List V) (i t : Nat), get (initEnv i xs) t = .junk ∨ ∃ x, (i ≤ t ∧ xs[t - i]? = some x) ∧ get (initEnv i xs) t = x.strip
  | [], i, t => .inl rfl
  | x :: xs, i, t => by
    simp only [initEnv, get]
    by_cases h : i = t
    · subst h
      exact .inr ⟨x, ⟨Nat.le_refl _, by simp⟩, by simp⟩
    · rw [beq_ne h]
      rcases initEnv_get xs (i + 1) t with h1 | ⟨y, ⟨h1, h2⟩, h3⟩
      · exact .inl h1
      · refine .inr ⟨y, ⟨by omega, ?_⟩, h3⟩
        rw [show t - i = (t - (i + 1)) + 1 by omega]
        simpa using h2


theorem SRep.lower1 {G : Gh} {l' : Nat} (h2 : 2 ≤ l') {v : Value} {x : V} (h : SRep G v x) (hx : noPtr1 l' x = true) : SRep { G with lv := l' } v x := by
  cases h with
  | data r => exact .data r
  | ptr l1 t off b n h1 h3 h4 =>
    simp [noPtr1] at hx
    exact .ptr l1 t off b n hx h3 h4
  | slc l1 t off sz len b n off' cap h1 h3 h4 h5 h6 =>
    simp [noPtr1] at hx
    exact .slc l1 t off sz len b n off' cap hx h3 h4 h5 h6
  | mref t b n h1 h3 => exact .mref t b n (by show 1 < l'; omega) h3
  | iref t b n h1 h3 => exact .iref t b n (by show 1 < l'; omega) h3
  | func fn f c f' c' h1 h3 =>
    simp [noPtr1] at hx
    obtain ⟨rfl, rfl⟩ := hx
    cases h1; cases h3
    exact .func fn [] [] [] [] .nil .nil
  | tup => simp [noPtr1] at hx
  | fptr => simp [noPtr1] at hx
  | sagg => simp [noPtr1] at hx

theorem dataCell_low {l l' : Nat} (hl : l < l') {x : V} (h : dataCell l x = true) : noPtr1 l' x = true := by
  cases x <;> simp [dataCell, noPtr1] at h ⊢
  · omega
  · exact h
  · omega

theorem SRepL.lower {G : Gh} {l' : Nat} (h2 : 2 ≤ l') : ∀ {vs : List Value} {xs : List V}, SRepL G vs xs → (∀ c ∈ xs, noPtr1 l' c = true) → SRepL { G with lv := l' } vs xs
  | _, _, .nil, _ => .nil
  | _, _, .cons r rs, h => .cons (r.lower1 h2 (h _ (by simp))) (SRepL.lower h2 rs (fun c hc => h c (by simp [hc])))

/-- The frame goes: what stays behind. -/
theorem fin_inv (hF : FInv G0 w0 L N G a s w) {bx : Boxes} {M' : Mem} (hmem : s.mem = bx :: M') (hlen : M'.length = L) {K2 : Know} {phi2 : Nat → Option Own} (hK : KLe G.K K2) (hkh : ∀ b o v, K2 b o = some v → w.cell? ⟨b, o, none⟩ = some v)
    (hbox : ∀ b l t, l < L → G.phi b = some (.box l t) → phi2 b = some (.box l t) ∧ ∀ o, K2 b o = G.K b o) (hcell : ∀ b l t i, l < L → G.phi b = some (.cell l t i) → phi2 b = some (.cell l t i) ∧ ∀ o, K2 b o = G.K b o)
    (hlow : ∀ b, (∀ o, G.phi b = some o → isMem o = false ∧ lowOwn L o) → phi2 b = G.phi b ∧ ∀ o, K2 b o = G.K b o) (hl2 : ∀ b, phi2 b ≠ none → G.phi b ≠ none) :
    Inv { lv := L, K := K2, lam := G.lam, phi := phi2 } w M' ∧ Ext L G0 w0 { lv := L, K := K2, lam := G.lam, phi := phi2 } w := by
  have h2 := hF.two
  have hmg : ∀ l t, l ≠ L → mget s.mem l t = mget M' l t := by
    intro l t hl
    rw [hmem]
    simp only [mget]
    rw [beq_ne (by omega)]
    rfl
  have hgle : GLe { G with lv := L } { lv := L, K := K2, lam := G.lam, phi := phi2 } := ⟨Nat.le_refl _, hK, fun _ _ _ _ h => h⟩
  refine ⟨⟨hlen.symm, by omega, hkh, fun l t cs hm' => ?_, fun l t hl hm' => ?_, hF.inv.lamL, fun b hb => hF.inv.phiL b (hl2 b hb)⟩, ⟨fun b o v hv => hK _ _ _ (hF.ext.K b o v hv), hF.ext.lam, hF.ext.size, hF.ext.os, hF.ext.tape, hF.ext.output, fun b hb hn => ?_, fun b l t hl hb => (hbox b l t hl (hF.ext.box b l t hl hb)).1⟩⟩
  · have hlt := mget_lt hm'
    rw [hlen] at hlt
    have hb := hF.inv.mem l t cs (by rw [hmg l t (by omega)]; exact hm')
    refine ⟨fun hl1 => ?_, fun hl1 => ?_⟩
    · obtain ⟨⟨b, cur, e, fz, d1, d2, d3, d4, d5, d6, d7⟩, d8⟩ := hb.1 hl1
      obtain ⟨e1, e2⟩ := hbox b l t hlt d2
      refine ⟨⟨b, cur, e, fz, d1, e1, d3, d4, (d5.lower h2 (fun c hc => dataCell_low hlt (d8 c hc))).mono hgle, fun o => by show K2 b o = none; rw [e2]; exact d6 o, fun i sz xs v hc hv => ?_⟩, d8⟩
      rcases d7 i sz xs v hc hv with h0 | ⟨g, cap, cur', e', fz, g1, g2, g3, g4, g5, g6, g7, g8⟩
      · exact .inl h0
      · obtain ⟨e3, e4⟩ := hcell g l t i hlt g2
        exact .inr ⟨g, cap, cur', e', fz, g1, e3, g3, g4, g5, g6, g7, fun o ho => by show K2 g o = none; rw [e4]; exact g8 o ho⟩
    · obtain ⟨b, n, d1, d2, d3, d4⟩ := (hb.2 hl1).ex
      obtain ⟨e1, e2⟩ := hbox b 1 t (by omega) d2
      refine ⟨⟨b, n, d1, e1, fun o => by show K2 b o = none; rw [e2]; exact d3 o, ?_⟩⟩
      rcases d4 with ⟨kd, ks, vs, es, q1, q2, q3, q4, q5, q6, q7⟩ | d4
      · exact .inl ⟨kd, ks, vs, es, q1, q2, q3, q4.mono hK, q5.mono hK, q6, q7⟩
      · exact .inr d4
  · exact hF.inv.lamBox l t (by rw [hmem]; simp; omega) (by rw [hmg l t (by omega)]; exact hm')
  · obtain ⟨e1, e2, e3⟩ := hF.ext.blk b hb hn
    have hq : ∀ o, G.phi b = some o → isMem o = false ∧ lowOwn L o := by
      intro o ho
      rw [e3] at ho
      exact ⟨hn o ho, hF.fresh0 b o ho⟩
    obtain ⟨f1, f2⟩ := hlow b hq
    exact ⟨e1, fun o => (f2 o).trans (e2 o), f1.trans e3⟩

/-- What stays owned as the frame goes. -/
def finOwn (L : Nat) (q : Option Own) (idx : Nat) : Own → Option Own := fun o =>
  if q = some o then some (.ret idx) else match o with
  | .slot l t i => if l < L then some (.slot l t i) else none
  | .ret _ => none
  | o => some o

theorem owns_uniq : ∀ {l : List ARes}, ownsOne l = true → ∀ {i j : Nat} {x y : ARes}, l[i]? = some x → x.owns = true → l[j]? = some y → y.owns = true → i = j := by
  intro l
  unfold ownsOne
  rw [decide_eq_true_eq]
  induction l with
  | nil => intro _ i j x y hx; simp at hx
  | cons a l ih =>
    intro hl i j x y hx h1 hy h2
    have nomem : (l.filter ARes.owns).length = 0 → ∀ {k : Nat} {z : ARes}, l[k]? = some z → z.owns = true → False := by
      intro h0 k z hz hz2
      have : z ∈ l.filter ARes.owns := List.mem_filter.2 ⟨List.mem_of_getElem? hz, hz2⟩
      rw [List.eq_nil_of_length_eq_zero h0] at this
      cases this
    by_cases ha : a.owns = true
    · rw [List.filter_cons_of_pos ha, List.length_cons] at hl
      have h0 : (l.filter ARes.owns).length = 0 := by omega
      cases i with
      | zero =>
        cases j with
        | zero => rfl
        | succ j => exact (nomem h0 (by simpa using hy) h2).elim
      | succ i => exact (nomem h0 (by simpa using hx) h1).elim
    · rw [List.filter_cons_of_neg ha] at hl
      cases i with
      | zero => simp at hx; subst hx; exact absurd h1 ha
      | succ i =>
        cases j with
        | zero => simp at hy; subst hy; exact absurd h2 ha
        | succ j => exact congrArg (· + 1) (ih hl (i := i) (j := j) (by simpa using hx) h1 (by simpa using hy) h2)

def unpackV : List V → V
  | [v] => v
  | vs => .tup vs

def packV : List Value → Value
  | [v] => v
  | cvs => .tuple cvs.toArray

/-- All results, and what stays. -/
theorem fin_results (hF : FInv G0 w0 L N G a s w) {bx : Boxes} {M' : Mem} (hmem : s.mem = bx :: M') (hlen : M'.length = L) {xs : List ARes} (hone : ownsOne xs = true) {cvs : List Value} {vs : List V} {r : V} (hl1 : cvs.length = vs.length) (hl2 : xs.length = vs.length)
    (hres : ∀ (i : Nat) (x : ARes) (cv : Value) (v : V), xs[i]? = some x → cvs[i]? = some cv → vs[i]? = some v → ResOK G w L x cv v) (hr : r = unpackV vs) (hnp : noPtr L r = true) :
    ∃ Ge : Gh, SRep Ge (packV cvs) r ∧ Inv Ge w M' ∧ Ext L G0 w0 Ge w ∧ (∀ b o, Ge.phi b = some o → lowOwn L o ∨ ∃ i, o = .ret i) ∧ Claims Ge w .ret (packV cvs) r := by
  have h2 := hF.two
  have up : ∀ (Ge : Gh) {cv : Value} {v : V}, GLe { G with lv := L } Ge → SRep G cv v → noPtr1 L v = true → SRep Ge cv v := fun Ge _ _ hge h hn => (h.lower1 h2 hn).mono hge
  -- from each result's V to the whole
  have whole : ∀ (Ge : Gh), Ge.lv = L → (∀ (i : Nat) (cv : Value) (v : V), cvs[i]? = some cv → vs[i]? = some v → noPtr1 L v = true → SRep Ge cv v) → (vs.length = 1 → ∀ (us : List V), r = .tup us → us.all (noPtr1 L) = true → SRep Ge (packV cvs) r) → SRep Ge (packV cvs) r := by
    intro Ge hlv h1 h3
    match hvs : vs, hcv : cvs, hl1 with
    | [v], [cv], _ =>
      replace hr : v = r := hr.symm
      subst hr
      by_cases ht : ∃ us, v = .tup us
      · obtain ⟨us, rfl⟩ := ht
        exact h3 rfl us rfl (by simpa [noPtr] using hnp)
      · refine h1 0 cv v rfl rfl ?_
        cases v <;> first | exact hnp | exact absurd ⟨_, rfl⟩ ht
    | [], [], _ =>
      replace hr : r = .tup [] := hr
      subst hr
      exact .tup [] [] .nil
    | v1 :: v2 :: vs', c1 :: c2 :: cvs', hl =>
      replace hr : r = .tup (v1 :: v2 :: vs') := hr
      subst hr
      have hall : ∀ v ∈ v1 :: v2 :: vs', noPtr1 L v = true := by
        simpa [noPtr] using hnp
      refine .tup (c1 :: c2 :: cvs') _ ?_
      have go : ∀ (cs : List Value) (ws : List V), cs.length = ws.length → (∀ (i : Nat) (cv : Value) (v : V), cs[i]? = some cv → ws[i]? = some v → SRep Ge cv v) → SRepL Ge cs ws := by
        intro cs
        induction cs with
        | nil => intro ws hl _; cases ws <;> simp at hl; exact .nil
        | cons c cs ih =>
          intro ws hl hh
          cases ws with
          | nil => simp at hl
          | cons w' ws => exact .cons (hh 0 c w' rfl rfl) (ih ws (by simpa using hl) (fun i cv v h1 h2 => hh (i + 1) cv v (by simpa using h1) (by simpa using h2)))
      exact go _ _ hl (fun i cv v hc hv => h1 i cv v hc hv (hall v (List.mem_of_getElem? hv)))
  have tupcase : ∀ (Ge : Gh), GLe { G with lv := L } Ge → vs.length = 1 → ∀ (us : List V), r = .tup us → us.all (noPtr1 L) = true → SRep Ge (packV cvs) r := by
    intro Ge hge h1 us hru hus
    match hvs : vs, hcv : cvs, hl1, h1 with
    | [v], [cv], _, _ =>
      replace hr : v = r := hr.symm
      subst hr
      subst hru
      obtain ⟨x, hx⟩ : ∃ x, xs[0]? = some x := by
        match xs, hl2 with
        | x :: _, _ => exact ⟨x, rfl⟩
      rcases hres 0 x cv _ hx rfl rfl with ⟨_, e1, _⟩ | ⟨_, _, e1, _⟩ | ⟨_, b, k, cur, e, fz, sz, n, cap, cs, _, e1, _⟩
      · obtain ⟨ws, rfl, hw⟩ := e1.tup_inv
        exact (SRep.tup ws us (hw.lower h2 (by simpa using hus))).mono hge
      · exact absurd rfl (e1.1 us)
      · cases e1
  -- the index that a claim of the whole has
  have claims : ∀ (Ge : Gh), (∀ (i : Nat) (x : ARes) (cv : Value) (v : V) (sz : Nat) (ys : List V), xs[i]? = some x → cvs[i]? = some cv → vs[i]? = some v → v = .list sz ys true → OwnOK Ge w (.ret (if vs.length = 1 then 0 else i + 1)) sz ys cv) → Claims Ge w .ret (packV cvs) r := by
    intro Ge hh j sz ys hj
    match hvs : vs, hcv : cvs, hl1 with
    | [v], [cv], _ =>
      replace hr : v = r := hr.symm
      subst hr
      obtain ⟨x, hx⟩ : ∃ x, xs[0]? = some x := by
        match xs, hl2 with
        | x :: _, _ => exact ⟨x, rfl⟩
      by_cases hv : ∃ sz' ys', v = .list sz' ys' true
      · obtain ⟨sz', ys', rfl⟩ := hv
        cases j with
        | succ j => cases hj
        | zero =>
          cases hj
          exact hh 0 x cv _ sz ys hx rfl rfl rfl
      · exfalso
        rcases hres 0 x cv v hx rfl rfl with ⟨_, _, e1⟩ | ⟨_, _, e1, _⟩ | ⟨_, b, k, cur, e, fz, sz', n, cap, cs, _, e1, _⟩
        · rw [e1 j] at hj; cases hj
        · rw [noClaim_of (fun sz' ys' h => hv ⟨sz', ys', h⟩) e1.1 e1.2 j] at hj; cases hj
        · exact hv ⟨_, _, e1⟩
    | [], [], _ =>
      replace hr : r = .tup [] := hr
      subst hr
      cases j <;> simp [claim] at hj
    | v1 :: v2 :: vs', c1 :: c2 :: cvs', hl =>
      replace hr : r = .tup (v1 :: v2 :: vs') := hr
      subst hr
      cases j with
      | zero => cases hj
      | succ j =>
        simp only [claim] at hj
        split at hj
        · rename_i sz' ys' hvj
          cases hj
          have hjl : j < (v1 :: v2 :: vs').length := (List.getElem?_eq_some_iff.1 hvj).1
          obtain ⟨x, hx⟩ : ∃ x, xs[j]? = some x := ⟨xs[j], List.getElem?_eq_getElem (by omega)⟩
          obtain ⟨cv, hc⟩ : ∃ cv, (c1 :: c2 :: cvs')[j]? = some cv := ⟨(c1 :: c2 :: cvs')[j], List.getElem?_eq_getElem (by omega)⟩
          have := hh j x cv _ sz ys hx hc hvj rfl
          rw [if_neg (by simp)] at this
          have e1 : comp (packV (c1 :: c2 :: cvs')) (j + 1) = cv := by
            simp only [packV, comp]
            simp only [Array.getD_eq_getD_getElem?, List.getElem?_toArray, hc, Option.getD_some]
          rw [e1]; exact this
        · cases hj
  have hfin : ∀ (q : Option Own) (idx : Nat) (b : Nat) (o : Own), (G.phi b).bind (finOwn L q idx) = some o → lowOwn L o ∨ ∃ i, o = .ret i := by
    intro q idx b o hb
    obtain ⟨o1, e1, e2⟩ := bind_some_iff.1 hb
    unfold finOwn at e2
    split at e2
    · cases e2; exact .inr ⟨_, rfl⟩
    · cases o1 with
      | slot l t i =>
        simp only at e2
        split at e2
        · rename_i hlt; cases e2; exact .inl hlt
        · cases e2
      | ret i => cases e2
      | box l t => cases e2; exact .inl trivial
      | cell l t i => cases e2; exact .inl trivial
  have hren : ∀ (q : Option Own) (idx : Nat), (∀ o, q = some o → (∀ l t, o ≠ .box l t) ∧ (∀ l t i, l < L → o ≠ .slot l t i ∧ o ≠ .cell l t i)) →
      Inv { lv := L, K := G.K, lam := G.lam, phi := fun b => (G.phi b).bind (finOwn L q idx) } w M' ∧ Ext L G0 w0 { lv := L, K := G.K, lam := G.lam, phi := fun b => (G.phi b).bind (finOwn L q idx) } w := by
    intro q idx hq
    have hno : ∀ o, (∀ l t, q ≠ some (.box l t)) → q ≠ some o → finOwn L q idx o = (match o with | .slot l t i => if l < L then some (Own.slot l t i) else none | .ret _ => none | o => some o) := by
      intro o _ ho
      unfold finOwn
      rw [if_neg ho]
    have hqb : ∀ l t, q ≠ some (.box l t) := fun l t h => (hq _ h).1 l t rfl
    refine fin_inv hF hmem hlen (fun _ _ _ h => h) hF.inv.kh (fun b l t hl hb => ⟨?_, fun _ => rfl⟩) (fun b l t i hl hb => ⟨?_, fun _ => rfl⟩) (fun b hb => ⟨?_, fun _ => rfl⟩) (fun b hb h0 => hb (by rw [h0]; rfl))
    · rw [hb, Option.bind_some, hno _ hqb (hqb l t)]
    · rw [hb, Option.bind_some, hno _ hqb (fun h => ((hq _ h).2 l t i hl).2 rfl)]
    · cases hp : G.phi b with
      | none => rfl
      | some o =>
        obtain ⟨g1, g2⟩ := hb o hp
        cases o with
        | box l t => cases g1
        | cell l t i => cases g1
        | ret i => exact g2.elim
        | slot l t i =>
          rw [Option.bind_some, hno _ hqb (fun h => ((hq _ h).2 l t i g2).1 rfl)]
          exact if_pos g2
  by_cases hex : ∃ (i0 : Nat) (x0 : ARes), xs[i0]? = some x0 ∧ x0.owns = true
  · obtain ⟨i0, x0, hx0, ho0⟩ := hex
    have hi0 : i0 < vs.length := by rw [← hl2]; exact (List.getElem?_eq_some_iff.1 hx0).1
    obtain ⟨cv0, hc0⟩ : ∃ cv, cvs[i0]? = some cv := ⟨cvs[i0], List.getElem?_eq_getElem (by omega)⟩
    obtain ⟨v0, hv0⟩ : ∃ v, vs[i0]? = some v := ⟨vs[i0], List.getElem?_eq_getElem hi0⟩
    have other : ∀ (i : Nat) (x : ARes), xs[i]? = some x → i ≠ i0 → x.owns = false := by
      intro i x hx hne
      cases hxo : x.owns with
      | false => rfl
      | true => exact absurd (owns_uniq hone hx hxo hx0 ho0) hne
    rcases hres i0 x0 cv0 v0 hx0 hc0 hv0 with ⟨e1, _⟩ | ⟨_, e2, e3, q, q1, q2, q3, q4⟩ | ⟨_, b0, k, cur, e, fz, sz, n, cap, cs, z1, z2, z3, z4, z5, z6, z7, z8, z9, z10, z11, z12, z13⟩
    · rw [ho0] at e1; cases e1
    · -- a slot's, or a box's
      obtain ⟨hi, hx⟩ := hren (some q) (if vs.length = 1 then 0 else i0 + 1) (fun o ho => by cases ho; exact ⟨q1, q2⟩)
      refine ⟨{ lv := L, K := G.K, lam := G.lam, phi := fun b => (G.phi b).bind (finOwn L (some q) (if vs.length = 1 then 0 else i0 + 1)) }, whole _ rfl (fun i cv v hc hv hn => ?_) (tupcase _ ⟨Nat.le_refl _, fun _ _ _ h => h, fun _ _ _ _ h => h⟩), hi, hx, hfin _ _, claims _ (fun i x cv v sz ys hx' hc hv hvl => ?_)⟩
      · obtain ⟨x, hx'⟩ : ∃ x, xs[i]? = some x := ⟨xs[i]'(by rw [hl2]; exact (List.getElem?_eq_some_iff.1 hv).1), List.getElem?_eq_getElem _⟩
        have hs : SRep G cv v := by
          by_cases hii : i = i0
          · subst hii
            rw [hv0] at hv; cases hv
            rw [hc0] at hc; cases hc
            exact e2
          · have hno := other i x hx' hii
            rcases hres i x cv v hx' hc hv with ⟨_, e1, _⟩ | ⟨e1, _⟩ | ⟨e1, _⟩
            · exact e1
            · rw [hno] at e1; cases e1
            · rw [hno] at e1; cases e1
        exact up _ ⟨Nat.le_refl _, fun _ _ _ h => h, fun _ _ _ _ h => h⟩ hs hn
      · by_cases hii : i = i0
        · subst hii
          rw [hv0] at hv; cases hv
          rw [hc0] at hc; cases hc
          subst hvl
          rcases q4 0 sz ys rfl with h0 | ⟨g, cap, cur, e, fz, g1, g2, g3⟩
          · exact .inl h0
          · refine .inr ⟨g, cap, cur, e, fz, g1, ?_, g3⟩
            show (G.phi g).bind _ = _
            rw [g2, Option.bind_some]
            simp [finOwn]
        · exfalso
          have hno := other i x hx' hii
          subst hvl
          rcases hres i x cv _ hx' hc hv with ⟨_, _, e1⟩ | ⟨e1, _⟩ | ⟨e1, _⟩
          · have := e1 0; cases this
          · rw [hno] at e1; cases e1
          · rw [hno] at e1; cases e1
    · -- a row of the frame's
      let idx := if vs.length = 1 then 0 else i0 + 1
      let K2 : Know := fun b o => if b = b0 then (if o < n * sz then cur[o]? else none) else G.K b o
      let phi2 : Nat → Option Own := fun b => if b = b0 then some (.ret idx) else (G.phi b).bind (finOwn L none 0)
      have hKb : ∀ b, b ≠ b0 → ∀ o, K2 b o = G.K b o := fun b hb o => if_neg hb
      have hpb : ∀ b, b ≠ b0 → phi2 b = (G.phi b).bind (finOwn L none 0) := fun b hb => if_neg hb
      have hK : KLe G.K K2 := by
        intro b o v hv
        have : b ≠ b0 := by rintro rfl; rw [z12] at hv; cases hv
        rw [hKb b this]; exact hv
      have hne : ∀ {b : Nat} {o : Own}, G.phi b = some o → (∀ l, o = .box L l → False) → b ≠ b0 := by
        rintro b o hb ho rfl
        rw [z3] at hb; cases hb
        exact ho k rfl
      have hif := fin_inv (K2 := K2) (phi2 := phi2) hF hmem hlen hK (fun b o v hv => by
          by_cases hb : b = b0
          · subst hb
            replace hv : (if b = b then (if o < n * sz then cur[o]? else none) else G.K b o) = some v := hv
            rw [if_pos rfl] at hv
            split at hv
            · rw [cell_of_heap z4]; exact hv
            · cases hv
          · rw [hKb b hb] at hv; exact hF.inv.kh b o v hv)
        (fun b l t hl hb => by
          have hb0 := hne hb (fun l' h => by cases h; omega)
          exact ⟨by rw [hpb b hb0, hb]; rfl, hKb b hb0⟩)
        (fun b l t i hl hb => by
          have hb0 := hne hb (fun l' h => by cases h)
          exact ⟨by rw [hpb b hb0, hb]; rfl, hKb b hb0⟩)
        (fun b hb => by
          have hb0 : b ≠ b0 := by
            rintro rfl
            have := (hb _ z3).1
            cases this
          refine ⟨?_, hKb b hb0⟩
          rw [hpb b hb0]
          cases hp : G.phi b with
          | none => rfl
          | some o =>
            obtain ⟨g1, g2⟩ := hb o hp
            cases o with
            | box l t => cases g1
            | cell l t i => cases g1
            | ret i => exact g2.elim
            | slot l t i => exact if_pos g2)
        (fun b hb h0 => by
          by_cases hb0 : b = b0
          · subst hb0; rw [z3] at h0; cases h0
          · rw [hpb b hb0, h0] at hb; exact hb rfl)
      obtain ⟨hi, hx⟩ := hif
      obtain ⟨f1, f2⟩ := chunk_flat z8 n cs z9 z11
      have hcl : (chunk sz n cs).length = n := chunk_length sz n cs
      have hrep0 : Rep K2 cv0 v0 := by
        rw [z1, z2]
        have hr0 : RepL G.K (cur.toList.take (n * sz)) cs := repOfAll z10 (fun c hc => okc_local (z11 c hc))
        have := Rep.list (K := K2) b0 0 cap sz (chunk sz n cs) true (cur.toList.take (n * sz)) (by rw [hcl]; exact z6) f2 (by rw [f1]; exact z11) (fun j u hu => by
          rw [List.getElem?_take] at hu
          split at hu
          · rename_i hj
            show (if b0 = b0 then (if 0 + j < n * sz then cur[0 + j]? else none) else G.K b0 (0 + j)) = some u
            rw [if_pos rfl, Nat.zero_add, if_pos hj]
            simpa using hu
          · cases hu) (by rw [f1]; exact hr0.mono hK)
        rw [hcl] at this
        exact this
      refine ⟨{ lv := L, K := K2, lam := G.lam, phi := phi2 }, whole _ rfl (fun i cv v hc hv hn => ?_) (tupcase _ ⟨Nat.le_refl _, hK, fun _ _ _ _ h => h⟩), hi, hx, fun b o hb => ?_, claims _ (fun i x cv v sz' ys hx' hc hv hvl => ?_)⟩
      · by_cases hii : i = i0
        · subst hii
          rw [hv0] at hv; cases hv
          rw [hc0] at hc; cases hc
          exact .data hrep0
        · obtain ⟨x, hx'⟩ : ∃ x, xs[i]? = some x := ⟨xs[i]'(by rw [hl2]; exact (List.getElem?_eq_some_iff.1 hv).1), List.getElem?_eq_getElem _⟩
          have hno := other i x hx' hii
          rcases hres i x cv v hx' hc hv with ⟨_, e1, _⟩ | ⟨e1, _⟩ | ⟨e1, _⟩
          · exact up _ ⟨Nat.le_refl _, hK, fun _ _ _ _ h => h⟩ e1 hn
          · rw [hno] at e1; cases e1
          · rw [hno] at e1; cases e1
      · by_cases hb0 : b = b0
        · subst hb0
          have : phi2 b = some (.ret idx) := if_pos rfl
          rw [show ({ lv := L, K := K2, lam := G.lam, phi := phi2 } : Gh).phi b = phi2 b from rfl, this] at hb
          cases hb; exact .inr ⟨_, rfl⟩
        · rw [show ({ lv := L, K := K2, lam := G.lam, phi := phi2 } : Gh).phi b = phi2 b from rfl, hpb b hb0] at hb
          exact hfin none 0 b o hb
      · by_cases hii : i = i0
        · subst hii
          rw [hv0] at hv; cases hv
          rw [hc0] at hc; cases hc
          rw [z2] at hvl
          cases hvl
          refine .inr ⟨b0, cap, cur, e, fz, .inl (by rw [hcl]; exact z1), if_pos rfl, z4, z13, z5, by rw [hcl]; exact z6, z7, fun o ho => ?_⟩
          rw [hcl] at ho
          show (if b0 = b0 then (if o < n * sz then cur[o]? else none) else G.K b0 o) = none
          rw [if_pos rfl, if_neg (by omega)]
        · exfalso
          have hno := other i x hx' hii
          subst hvl
          rcases hres i x cv _ hx' hc hv with ⟨_, _, e1⟩ | ⟨e1, _⟩ | ⟨e1, _⟩
          · have := e1 0; cases this
          · rw [hno] at e1; cases e1
          · rw [hno] at e1; cases e1
  · have hno : ∀ (i : Nat) (x : ARes), xs[i]? = some x → x.owns = false := by
      intro i x hx
      cases hxo : x.owns with
      | false => rfl
      | true => exact absurd ⟨i, x, hx, hxo⟩ hex
    obtain ⟨hi, hx⟩ := hren none 0 (fun o ho => by cases ho)
    refine ⟨{ lv := L, K := G.K, lam := G.lam, phi := fun b => (G.phi b).bind (finOwn L none 0) }, whole _ rfl (fun i cv v hc hv hn => ?_) (tupcase _ ⟨Nat.le_refl _, fun _ _ _ h => h, fun _ _ _ _ h => h⟩), hi, hx, hfin _ _, claims _ (fun i x cv v sz ys hx' hc hv hvl => ?_)⟩
    · obtain ⟨x, hx'⟩ : ∃ x, xs[i]? = some x := ⟨xs[i]'(by rw [hl2]; exact (List.getElem?_eq_some_iff.1 hv).1), List.getElem?_eq_getElem _⟩
      have hno' := hno i x hx'
      rcases hres i x cv v hx' hc hv with ⟨_, e1, _⟩ | ⟨e0, _⟩ | ⟨e0, _⟩
      · exact up _ ⟨Nat.le_refl _, fun _ _ _ h => h, fun _ _ _ _ h => h⟩ e1 hn
      · rw [hno'] at e0; cases e0
      · rw [hno'] at e0; cases e0
    · exfalso
      have hno' := hno i x hx'
      subst hvl
      rcases hres i x cv _ hx' hc hv with ⟨_, _, e1⟩ | ⟨e1, _⟩ | ⟨e1, _⟩
      · have := e1 0; cases this
      · rw [hno'] at e1; cases e1
      · rw [hno'] at e1; cases e1

theorem func_sound [Base] (hS : Sound P call) (hm : P.follows .mixedOrders = true) {f : Nat} {af : AFunc} (hok : okFunc P f af = true) {xs : List V} (hn : xs.length = af.nparams) {M M' : Mem} {r : V} {fuel d : Nat}
    (hx : (evC call fuel d af.body { env := initEnv 0 xs, mem := [] :: M }).bind (finish af) = some (r, M')) : CallsOK P f xs M r M' := by
  unfold okFunc at hok
  split at hok
  case h_2 => cases hok
  rename_i fn hfn
  simp only [Bool.and_eq_true, bne_iff_ne, ne_eq, Nat.ble_eq] at hok
  obtain ⟨⟨⟨⟨hname, hnp⟩, hres⟩, hone⟩, hbody⟩ := hok
  split at hbody
  case h_2 => cases hbody
  rename_i c hc
  obtain ⟨⟨e, s'⟩, h1, h2⟩ := bind_some_iff.1 hx
  -- what the function's end gives
  have hfin : (e = .normal ∨ e = .ret) ∧ ∃ b, s'.mem = b :: M' ∧ resultOf s' af.results = some r ∧ noPtr M'.length r = true := by
    unfold finish at h2
    split at h2
    · rename_i s1 heq
      cases heq
      refine ⟨.inl rfl, ?_⟩
      split at h2
      · cases h2
      · rename_i b m hmem
        obtain ⟨v, h3, h4⟩ := bind_some_iff.1 h2
        split at h4
        · injection h4 with h4; injection h4 with e1 e2; subst e1 e2
          exact ⟨b, hmem, h3, by assumption⟩
        · cases h4
    · rename_i s1 heq
      cases heq
      refine ⟨.inr rfl, ?_⟩
      split at h2
      · cases h2
      · rename_i b m hmem
        obtain ⟨v, h3, h4⟩ := bind_some_iff.1 h2
        split at h4
        · injection h4 with h4; injection h4 with e1 e2; subst e1 e2
          exact ⟨b, hmem, h3, by assumption⟩
        · cases h4
    · cases h2
  obtain ⟨hee, b, hmem, hro, hnop⟩ := hfin
  have hcallable : callable P f = true := by
    unfold callable
    rw [hfn]
    simp [hname, hc]
  refine ⟨hcallable, fun G w cargs hinv hB hph hargs => ?_⟩
  have hcl := hargs.length
  simp only [Array.length_toList] at hcl
  refine calls_of_wp hfn hc ?_
  let L := M.length
  have hL2 : 2 ≤ L := hinv.two
  let G1 : Gh := { G with lv := L + 1, lam := fun l t => if l = L then none else G.lam l t }
  have hlam : ∀ l t, l < L → G1.lam l t = G.lam l t := fun l t hl => if_neg (by omega)
  have gle : GLe G G1 := ⟨by rw [hinv.lv]; exact Nat.le_succ _, fun _ _ _ h => h, fun l t p hl hb => by rw [hlam l t (by rw [hinv.lv] at hl; exact hl)]; exact hb⟩
  have hmg : ∀ l t, mget ([] :: M) l t = mget M l t := by
    intro l t
    simp only [mget]
    by_cases hl : l = M.length
    · subst hl; rw [mget_none M _ t (Nat.le_refl _)]; simp [bget]
    · rw [beq_ne hl]; rfl
  have hsz : (cargs ++ Array.replicate (fn.ntmps - cargs.size) Go.undef).size = fn.ntmps := by simp; omega
  have hF : FInv G w L fn.ntmps G1 { tmps := cargs ++ Array.replicate (fn.ntmps - cargs.size) Go.undef, defers := [] } { env := initEnv 0 xs, mem := [] :: M } w := by
    refine ⟨⟨rfl, by show 2 ≤ M.length + 1; omega, hinv.kh, fun l t cs hm' => ?_, fun l t hl hm' => ?_, fun l t p hb => ?_, hinv.phiL⟩, rfl, hL2, hsz, rfl, fun t => ?_, fun t => ?_, ⟨fun _ _ _ h => h, fun l t p hl hp => by rw [hlam l t hl]; exact hp, Nat.le_refl _, rfl, rfl, rfl, fun _ _ _ => ⟨rfl, fun _ => rfl, rfl⟩, fun _ _ _ _ h => h⟩, hph, fun b o hb => ?_⟩
    · simp only [hmg] at hm'
      have hlt := mget_lt hm'
      have hbox := hinv.mem l t cs hm'
      refine ⟨fun hl1 => ?_, fun hl1 => ?_⟩
      · obtain ⟨⟨b', cur, e', fz, c1, c2, c3, c4, c5, c6, c7⟩, c8⟩ := hbox.1 hl1
        exact ⟨⟨b', cur, e', fz, by rw [hlam l t hlt]; exact c1, c2, c3, c4, c5.mono gle, c6, c7⟩, c8⟩
      · obtain ⟨b', n, c1, c2, c3, c4⟩ := (hbox.2 hl1).ex
        refine ⟨⟨b', n, ?_, c2, c3, c4⟩⟩
        rw [hlam 1 t (by omega)]; exact c1
    · simp only [hmg] at hm'
      by_cases hlL : l = L
      · exact if_pos hlL
      · have : l < L := by simp at hl; show l < M.length; have : l ≠ M.length := hlL; omega
        rw [hlam l t this]
        exact hinv.lamBox l t this hm'
    · by_cases hlL : l = L
      · have : G1.lam l t = none := if_pos hlL
        rw [this] at hb; cases hb
      · have : G1.lam l t = G.lam l t := if_neg hlL
        rw [this] at hb
        exact hinv.lamL l t p hb
    · rcases initEnv_get xs 0 t with h0 | ⟨x, ⟨_, hx'⟩, h0⟩
      · show SRep _ _ (get (initEnv 0 xs) t)
        rw [h0]; exact .data (.junk _)
      · show SRep _ _ (get (initEnv 0 xs) t)
        rw [h0]
        simp only [Nat.sub_zero] at hx'
        obtain ⟨v, hv, hr⟩ := hargs.get hx'
        have hlt : t < cargs.size := by rw [hcl]; exact (List.getElem?_eq_some_iff.1 hx').1
        have : (cargs ++ Array.replicate (fn.ntmps - cargs.size) Go.undef).getD t Go.undef = v := by
          simp only [Array.getD_eq_getD_getElem?, Array.getElem?_append_left hlt]
          have : cargs[t]? = some v := by simpa using hv
          rw [this]; rfl
        rw [this]
        exact (hr.mono gle).strip
    · show Claims _ _ _ _ (get (initEnv 0 xs) t)
      rcases initEnv_get xs 0 t with h0 | ⟨x, _, h0⟩
      · rw [h0]; exact Claims.none (noc_sound rfl)
      · rw [h0]; exact Claims.none (noClaim_strip _)
    · have := hph b o hb
      cases o with
      | slot l t i => exact Nat.lt_succ_of_lt this
      | ret i => exact this
      | box => trivial
      | cell => trivial
  refine code_sound hS hB hm d c af.body G1 _ _ w e s' hbody hF h1 _ (fun G' a' w' hF' => ?_)
  -- the end of the function
  have hlen : M'.length = L := by have := hF'.lvl; rw [hmem] at this; simpa using this
  have hra : ∃ vs, resAll s' af.results = some vs ∧ r = unpackV vs := by
    unfold resultOf at hro
    obtain ⟨vs, h3, h4⟩ := Option.map_eq_some_iff.1 hro
    refine ⟨vs, h3, ?_⟩
    rw [← h4]
    match vs with
    | [] => rfl
    | [v] => rfl
    | _ :: _ :: _ => rfl
  obtain ⟨vs, hvs, hrv⟩ := hra
  obtain ⟨cvs, hcv, hl1, hl2, hro'⟩ := resAll_run hF' hres hvs
  obtain ⟨Ge, q1, q2, q3, q4, q5⟩ := fin_results hF' hmem hlen hone hl1 hl2 hro' hrv (by rw [← hlen]; exact hnop)
  have hrun : (results fn a'.tmps).run P w' = .ok (packV cvs) w' := by
    have hcv' : (fn.results.mapM fun (r : ResultVar) => (match r with | .tmp t => pure (a'.tmps.getD t Go.undef) | .cell t ty => (do loadVar ty (← asAddr (a'.tmps.getD t Go.undef)) : Sem Value) : Sem Value)).run P w' = .ok cvs.toArray w' := by
      rw [Array.mapM_eq_mapM_toList]
      simp only [Sem.run_map, hcv, Result.andThen_ok]
    unfold results
    rw [Sem.run_bind]
    refine Eq.trans (congrArg (fun q => Result.andThen q _) hcv') ?_
    simp only [Result.andThen_ok, Sem.run_pure]
    congr 1
    match cvs with
    | [] => rfl
    | [v] => rfl
    | _ :: _ :: _ => simp [packV]
  rcases hee with rfl | rfl
  · exact ⟨hF'.defers, _, hrun, _, Ge, rfl, q1, q2, q3, q4, hlen, q5⟩
  · exact ⟨hF'.defers, _, hrun, _, Ge, rfl, q1, q2, q3, q4, hlen, q5⟩

/-- The evaluator is sound, if each function of the table is the program's and each contract that is handed in holds. -/
theorem evF_sound [Base] (hm : P.follows .mixedOrders = true) {A : Nat → Option AFunc} {prim : CallF} (hA : ∀ f af, A f = some af → okFunc P f af = true) (hP : Sound P prim) : ∀ n, Sound P (evF A prim n)
  | 0 => fun f xs M r M' hx => by cases hx
  | n + 1 => fun f xs M r M' hx => by
    unfold evF at hx
    split at hx
    · exact hP f xs M r M' hx
    · rename_i af haf
      split at hx
      · rename_i hn
        exact func_sound (evF_sound hm hA hP n) hm (hA f af haf) hn hx
      · cases hx

theorem ev_sound [Base] (hm : P.follows .mixedOrders = true) {A : Nat → Option AFunc} {prim : CallF} (hA : ∀ f af, A f = some af → okFunc P f af = true) (hP : Sound P prim) : Sound P (ev A prim) := fun f xs M r M' hx => by
  obtain ⟨n, hn⟩ := (ev_iff A prim f xs M (r, M')).1 hx
  exact evF_sound hm hA hP n f xs M r M' hn

end
end Go.Proofs.YtpmpofcokkgfdaaGreatDoor.Ev

/- Regions: in the text's order; in whatever order the tape draws. -/
import Derived.Test.YtpmpofcokkgfdaaGreatDoorEv9
namespace Go.Proofs.YtpmpofcokkgfdaaGreatDoor.Ev
open Go

def okGuard (N : Nat) (ops : Array Oper) (o : Oper) : Option (Nat × Bool) → Bool
  | none => (match o.guard with | none => true | some _ => false)
  | some (g, b) => (match o.guard with | none => false | some (j, b') => decide (b = b') && decide ((ops[j]?).bind (·.dst) = some g) && decide (g < N))

def noDstOk : Prim → Option Nat → Bool
  | .mset _, some _ => false
  | _, _ => true

/-- The store into a variable that is only read from then on: what it gives stands in the pointer's slot. -/
def okStorec (P : Program) (N : Nat) (o : Oper) (ao : AOp) : Bool :=
  match ao.pr, ao.args with
  | .storec n, [.k p, br] => decide (ao.dst = some p) && decide (p < N) && o.dst.isNone && ao.g.isNone && o.guard.isNone && okPrim P o.op [.k p, br] (.storec n)
  | _, _ => false

def notStorec : Prim → Bool
  | .storec _ => false
  | _ => true

def okOp (P : Program) (N : Nat) (ops : Array Oper) (o : Oper) (ao : AOp) : Bool :=
  okStorec P N o ao || notStorec ao.pr && decide (ao.dst = o.dst) && (match ao.dst with | some t => decide (t < N) | none => true) && (!needsDst ao.pr || ao.dst.isSome) && noDstOk ao.pr ao.dst && okGuard N ops o ao.g && okPrim P o.op ao.args ao.pr

def okList (P : Program) (N : Nat) (ops : Array Oper) : List Oper → List AOp → Bool
  | [], [] => true
  | o :: os, ao :: aos => okOp P N ops o ao && okList P N ops os aos
  | _, _ => false

theorem okList_get {P : Program} {N : Nat} {ops : Array Oper} : ∀ {os : List Oper} {aos : List AOp}, okList P N ops os aos = true → os.length = aos.length ∧ ∀ (i : Nat) (o : Oper) (ao : AOp), os[i]? = some o → aos[i]? = some ao → okOp P N ops o ao = true
  | [], [], _ => ⟨rfl, fun i o ao h => by simp at h⟩
  | o :: os, ao :: aos, h => by
    simp only [okList, Bool.and_eq_true] at h
    obtain ⟨h1, h2⟩ := okList_get h.2
    refine ⟨by simp [h1], fun i o' ao' ho hao => ?_⟩
    cases i with
    | zero => simp at ho hao; subst ho hao; exact h.1
    | succ i => exact h2 i o' ao' (by simpa using ho) (by simpa using hao)
  | [], _ :: _, h => by cases h
  | _ :: _, [], h => by cases h

section
variable {P : Program} {call : CallF} {G0 : Gh} {w0 : World} {L N : Nat} {G : Gh} {a : Act} {s : St} {w : World} {ops : Array Oper}

theorem storec_op {i : Nat} {o : Oper} {ao : AOp} (hi : ops[i]? = some o) (hok : okStorec P N o ao = true) (h : FInv G0 w0 L N G a s w) {s' : St} (hx : evOp call ao s = some s') {K : Act → World → Prop} {Q : Exit → Act → World → Prop}
    (hK : ∀ G' a' w', FInv G0 w0 L N G' a' s' w' → K a' w') : wpOp P ops Q i K a w := by
  unfold okStorec at hok
  split at hok
  · rename_i n p br hpr hargs
    simp only [Bool.and_eq_true, decide_eq_true_eq, Option.isNone_iff_eq_none] at hok
    obtain ⟨⟨⟨⟨⟨hd, hpN⟩, hod⟩, hag⟩, hog⟩, hp⟩ := hok
    unfold wpOp
    simp only [hi]
    have hw : Region.wanted o (yielded ops a.tmps) = true := by simp [Region.wanted, hog]
    rw [if_pos hw]
    unfold evOp at hx
    rw [hag] at hx
    unfold AOp.exec at hx
    obtain ⟨⟨r, m⟩, hrun, rfl⟩ := Option.map_eq_some_iff.1 hx
    rw [hpr, hargs] at hrun
    simp only [Prim.run, Prim.kind] at hrun
    obtain ⟨y, hy, h1⟩ := Option.map_eq_some_iff.1 hrun
    simp only [Prod.mk.injEq] at h1
    obtain ⟨rfl, rfl⟩ := h1
    simp only [okPrim] at hp
    split at hp
    · rename_i t x v hop
      split at hp
      · rename_i i' p' br' hi' heq
        cases heq
        simp only [Bool.and_eq_true, beq_iff_eq] at hp
        obtain ⟨rfl, hk⟩ := hp
        obtain ⟨G', w', hr, hG⟩ := storec_sound hop hi' h hk (by simpa [runP, readArg] using hy)
        refine .inl ?_
        unfold Oper.wp
        rw [hr, Oper.upon_skip, hod]
        refine hK G' _ _ ?_
        rw [hargs, hd]
        exact hG
      · cases hp
    · cases hp
  · cases hok

theorem evOp_sound [Base] (hS : Sound P call) (hB : BaseOK G0 w0) {i : Nat} {o : Oper} {ao : AOp} (hi : ops[i]? = some o) (hok : okOp P N ops o ao = true) (h : FInv G0 w0 L N G a s w) {s' : St} (hx : evOp call ao s = some s') {K : Act → World → Prop} {Q : Exit → Act → World → Prop}
    (hK : ∀ G' a' w', FInv G0 w0 L N G' a' s' w' → K a' w') : wpOp P ops Q i K a w := by
  simp only [okOp, Bool.or_eq_true, Bool.and_eq_true, decide_eq_true_eq] at hok
  rcases hok with hst | hok
  · exact storec_op hi hst h hx hK
  obtain ⟨⟨⟨⟨⟨⟨hns, hdst⟩, hN⟩, hD⟩, hnd⟩, hg⟩, hp⟩ := hok
  have hnst : ∀ n, ao.pr ≠ .storec n := by
    intro n hn
    rw [hn] at hns
    cases hns
  have hnd' : (∃ kd, ao.pr = .mset kd) → ao.dst = none := by
    rintro ⟨kd, hk⟩
    rw [hk] at hnd
    cases hd : ao.dst with
    | none => rfl
    | some d => rw [hd] at hnd; cases hnd
  have hN' : ∀ t, ao.dst = some t → t < N := fun t ht => by rw [ht] at hN; simpa using hN
  have hD' : needsDst ao.pr = true → ao.dst ≠ none := fun hn => by
    rw [hn] at hD
    intro h0
    rw [h0] at hD
    simp at hD
  unfold wpOp
  simp only [hi]
  unfold evOp at hx
  cases hag : ao.g with
  | none =>
    rw [hag] at hg
    have hog : o.guard = none := by
      simp only [okGuard] at hg
      split at hg
      · assumption
      · cases hg
    rw [hag] at hx
    have hw : Region.wanted o (yielded ops a.tmps) = true := by simp [Region.wanted, hog]
    rw [if_pos hw]
    exact .inl (op_sound hS hB hdst hN' hD' hnd' hnst hp h hx hK)
  | some gb =>
    obtain ⟨g, b⟩ := gb
    rw [hag] at hg
    simp only [okGuard] at hg
    split at hg
    · cases hg
    · rename_i j b' hog
      simp only [Bool.and_eq_true, decide_eq_true_eq] at hg
      obtain ⟨⟨rfl, hj⟩, hgN⟩ := hg
      rw [hag] at hx
      have hgs : g < a.tmps.size := by rw [h.size]; exact hgN
      have hrep := h.slots g
      have hget : a.tmps[g]? = some (a.tmps.getD g Go.undef) := by simp [hgs]
      have skip : s' = { s with env := putO s.env ao.dst .undef } → K (a.put o.dst Go.undef) w := by
        intro hs
        rw [← hdst]
        refine hK G _ _ ?_
        rw [hs]
        exact h.putUndef hN'
      simp only at hx
      split at hx
      · rename_i c hc
        rw [hc] at hrep
        have hv := hrep.bool_inv
        have hy : yielded ops a.tmps j = some c := by
          simp only [yielded, hj, Option.bind_some, hget, hv]
        cases hcb : (c == b) with
        | true =>
          rw [hcb] at hx
          have hw : Region.wanted o (yielded ops a.tmps) = true := by
            simp only [Region.wanted, hog, hy]
            simpa using hcb
          rw [if_pos hw]
          exact .inl (op_sound hS hB hdst hN' hD' hnd' hnst hp h hx hK)
        | false =>
          rw [hcb] at hx
          have hw : ¬ Region.wanted o (yielded ops a.tmps) = true := by
            simp only [Region.wanted, hog, hy]
            simpa using hcb
          rw [if_neg hw]
          simp only [cond_false, Option.some.injEq] at hx
          exact skip hx.symm
      · rename_i hc
        rw [hc] at hrep
        have hv := hrep.undef_inv
        have hy : yielded ops a.tmps j = none := by
          simp only [yielded, hj, Option.bind_some, hget]
          rw [hv]; rfl
        have hw : ¬ Region.wanted o (yielded ops a.tmps) = true := by
          simp [Region.wanted, hog, hy]
        rw [if_neg hw]
        simp only [Option.some.injEq] at hx
        exact skip hx.symm
      · cases hx

/-- The text's order. -/
theorem evOps_sound [Base] (hS : Sound P call) (hB : BaseOK G0 w0) {Q : Exit → Act → World → Prop} {s' : St} (hQ : ∀ G' a' w', FInv G0 w0 L N G' a' s' w' → Q .normal a' w') : ∀ (aos : List AOp) (k : Nat) (G : Gh) (a : Act) (s : St) (w : World),
    (∀ j ao, aos[j]? = some ao → ∃ o, ops[k + j]? = some o ∧ okOp P N ops o ao = true) → FInv G0 w0 L N G a s w → evOps call aos s = some s' → wpOps P ops Q (List.range' k aos.length) a w
  | [], k, G, a, s, w, _, h, hx => by
    simp only [evOps, Option.some.injEq] at hx
    subst hx
    exact hQ G a w h
  | ao :: aos, k, G, a, s, w, hok, h, hx => by
    unfold evOps at hx
    obtain ⟨s1, h1, h2⟩ := bind_some_iff.1 hx
    obtain ⟨o, ho, hoo⟩ := hok 0 ao rfl
    simp only [Nat.add_zero] at ho
    simp only [List.length_cons, List.range'_succ, wpOps_cons]
    refine evOp_sound hS hB ho hoo h h1 (fun G' a' w' hF => ?_)
    exact evOps_sound hS hB hQ aos (k + 1) G' a' s1 w' (fun j ao' hj => by
      have := hok (j + 1) ao' (by simpa using hj)
      rw [show k + 1 + j = k + (j + 1) by omega]; exact this) hF h2

/-! ### Whatever order -/

/-- The same slots, the same memory. -/
def Same (s s' : St) : Prop := (∀ t, get s.env t = get s'.env t) ∧ s.mem = s'.mem

theorem Same.refl (s : St) : Same s s := ⟨fun _ => rfl, rfl⟩
theorem Same.trans {a b c : St} (h : Same a b) (h' : Same b c) : Same a c := ⟨fun t => (h.1 t).trans (h'.1 t), h.2.trans h'.2⟩
theorem Same.symm {a b : St} (h : Same a b) : Same b a := ⟨fun t => (h.1 t).symm, h.2.symm⟩

theorem FInv.same (h : FInv G0 w0 L N G a s w) {s' : St} (hs : Same s s') : FInv G0 w0 L N G a s' w := by
  obtain ⟨h1, h2⟩ := hs
  exact ⟨by rw [← h2]; exact h.inv, by rw [← h2]; exact h.lvl, h.two, h.size, h.defers, fun t => by rw [← h1]; exact h.slots t, fun t => by rw [← h1]; exact h.own t, h.ext, h.fresh0, h.fresh⟩

def isTake (t : Nat) : AArg → Bool
  | .k n => t == n
  | _ => false

theorem stripTakes_eq : ∀ (l : List AArg) (e : Env) (t : Nat), get (stripTakes e l) t = if l.any (isTake t) then (get e t).strip else get e t
  | [], e, t => rfl
  | .t _ :: l, e, t => by simp only [stripTakes, List.any_cons, isTake, Bool.false_or]; exact stripTakes_eq l e t
  | .c _ :: l, e, t => by simp only [stripTakes, List.any_cons, isTake, Bool.false_or]; exact stripTakes_eq l e t
  | .k n :: l, e, t => by
    simp only [stripTakes, List.any_cons, isTake]
    rw [stripTakes_eq l, get_put]
    by_cases h : t = n
    · subst h; simp [strip_strip]
    · simp [h]

def hasDst (t : Nat) (d : Option Nat) : Bool :=
  match d with
  | some d => t == d
  | none => false

theorem putO_get (e : Env) (d : Option Nat) (v : V) (t : Nat) : get (putO e d v) t = if hasDst t d then v else get e t := by
  cases d with
  | none => simp [putO, hasDst]
  | some d => simp [putO, hasDst, get_put]

theorem readArgs_congr {e e' : Env} : ∀ {l : List AArg}, (∀ ar ∈ l, readArg e ar = readArg e' ar) → l.map (readArg e) = l.map (readArg e')
  | [], _ => rfl
  | ar :: l, h => by
    simp only [List.map_cons]
    rw [h ar (by simp), readArgs_congr (fun x hx => h x (by simp [hx]))]

theorem evOp_congr {o : AOp} {s s' s1 : St} (hs : Same s s') (h : evOp call o s = some s1) : ∃ s1', evOp call o s' = some s1' ∧ Same s1 s1' := by
  obtain ⟨he, hm⟩ := hs
  have hra : o.args.map (readArg s.env) = o.args.map (readArg s'.env) := readArgs_congr (fun ar _ => by cases ar <;> simp [readArg, he])
  have hex : ∀ {s1}, o.exec call s = some s1 → ∃ s1', o.exec call s' = some s1' ∧ Same s1 s1' := by
    intro s1 hx
    unfold AOp.exec at hx ⊢
    obtain ⟨⟨v, m⟩, h1, h2⟩ := Option.map_eq_some_iff.1 hx
    subst h2
    rw [hra, hm] at h1
    refine ⟨{ env := putO (stripTakes s'.env o.args) o.dst v, mem := m }, by rw [h1]; rfl, fun t => ?_, rfl⟩
    simp only [putO_get, stripTakes_eq, he]
  have hsk : ∀ {s1}, some { s with env := putO s.env o.dst .undef } = some s1 → ∃ s1', some ({ s' with env := putO s'.env o.dst .undef } : St) = some s1' ∧ Same s1 s1' := by
    intro s1 hx
    injection hx with hx
    subst hx
    exact ⟨_, rfl, fun t => by simp only [putO_get, he], hm⟩
  unfold evOp at h ⊢
  split at h
  · exact hex h
  · rename_i g b _
    have hg := he g
    split at h
    · rename_i c hc
      rw [hc] at hg
      simp only [← hg]
      cases hcb : (c == b) with
      | true => rw [hcb] at h; exact hex h
      | false => rw [hcb] at h; exact hsk h
    · rename_i hc
      rw [hc] at hg
      simp only [← hg]
      exact hsk h
    · cases h

theorem evOps_congr : ∀ {l : List AOp} {s s' s1 : St}, Same s s' → evOps call l s = some s1 → ∃ s1', evOps call l s' = some s1' ∧ Same s1 s1'
  | [], s, s', s1, hs, h => by
    simp only [evOps, Option.some.injEq] at h
    subst h
    exact ⟨s', rfl, hs⟩
  | o :: l, s, s', s1, hs, h => by
    unfold evOps at h
    obtain ⟨s2, h1, h2⟩ := bind_some_iff.1 h
    obtain ⟨s2', h3, h4⟩ := evOp_congr hs h1
    obtain ⟨s1', h5, h6⟩ := evOps_congr h4 h2
    exact ⟨s1', by unfold evOps; rw [h3]; exact h5, h6⟩

def argSlot : AArg → List Nat
  | .t n => [n]
  | .k n => [n]
  | .c _ => []

def takeSlot : AArg → List Nat
  | .k n => [n]
  | _ => []

/-- The slots that an operation looks at; those that it writes. -/
def AOp.looks (o : AOp) : List Nat := o.args.flatMap argSlot ++ (match o.g with | some (g, _) => [g] | none => [])
def AOp.writes (o : AOp) : List Nat := o.args.flatMap takeSlot ++ o.dst.toList

def disj (a b : List Nat) : Bool := a.all fun x => !b.contains x

/-- May two operations change places? -/
def comm (x y : AOp) : Bool :=
  disj x.writes y.looks && disj x.writes y.writes && disj y.writes x.looks &&
  !((x.pr.kind == 2 && (y.pr.kind == 1 || y.pr.kind == 2)) || (x.pr.kind == 1 && y.pr.kind == 2))

theorem disj_not {a b : List Nat} (h : disj a b = true) {t : Nat} (ha : t ∈ a) : t ∉ b := by
  simp only [disj, List.all_eq_true, Bool.not_eq_true'] at h
  have := h t ha
  simpa using this

/-- What an operation does to a state: nothing outside what it writes. -/
theorem exec_keeps {o : AOp} {s s1 : St} (h : o.exec call s = some s1) {t : Nat} (ht : t ∉ o.writes) : get s1.env t = get s.env t := by
  unfold AOp.exec at h
  obtain ⟨⟨v, m⟩, h1, h2⟩ := Option.map_eq_some_iff.1 h
  subst h2
  simp only [AOp.writes, List.mem_append, not_or] at ht
  have hd : hasDst t o.dst = false := by
    cases hd : o.dst with
    | none => rfl
    | some d =>
      have := ht.2
      rw [hd] at this
      simp [hasDst] at this ⊢
      exact this
  have hk : o.args.any (isTake t) = false := by
    rw [Bool.eq_false_iff]
    intro hc
    obtain ⟨ar, har, hta⟩ := List.any_eq_true.1 hc
    apply ht.1
    refine List.mem_flatMap.2 ⟨ar, har, ?_⟩
    cases ar <;> simp [isTake] at hta
    subst hta
    simp [takeSlot]
  simp [putO_get, stripTakes_eq, hd, hk]

theorem evOp_keeps {o : AOp} {s s1 : St} (h : evOp call o s = some s1) {t : Nat} (ht : t ∉ o.writes) : get s1.env t = get s.env t := by
  have hsk : some ({ s with env := putO s.env o.dst .undef } : St) = some s1 → get s1.env t = get s.env t := by
    intro hx
    injection hx with hx
    subst hx
    have hd : hasDst t o.dst = false := by
      simp only [AOp.writes, List.mem_append, not_or] at ht
      cases hd : o.dst with
      | none => rfl
      | some d =>
        have := ht.2
        rw [hd] at this
        simp [hasDst] at this ⊢
        exact this
    simp [putO_get, hd]
  unfold evOp at h
  split at h
  · exact exec_keeps h ht
  · split at h
    · rename_i c _
      revert h
      cases (c == _) with
      | true => exact fun h => exec_keeps h ht
      | false => exact hsk
    · exact hsk h
    · cases h

theorem run_mem {p : Prim} {d : Option Nat} {xs : List V} {m m' : Mem} {v : V} (hk : p.kind ≠ 2) (h : p.run call d xs m = some (v, m')) : m' = m := by
  unfold Prim.run at h
  split at h
  · obtain ⟨_, _, h⟩ := Option.map_eq_some_iff.1 h
    injection h with _ h; exact h.symm
  · split at h
    · injection h with h; injection h with _ h; exact h.symm
    · obtain ⟨_, _, h⟩ := Option.map_eq_some_iff.1 h
      injection h with _ h; exact h.symm
  · obtain ⟨_, _, h⟩ := Option.map_eq_some_iff.1 h
    injection h with _ h; exact h.symm
  · rename_i h0 h1 h3
    exfalso
    cases p <;> simp [Prim.kind] at hk h0 h1 h3

theorem run_anymem {p : Prim} {d : Option Nat} {xs : List V} {m m' : Mem} {v : V} (hk : p.kind ≠ 2) (hk1 : p.kind ≠ 1) (m2 : Mem) (h : p.run call d xs m = some (v, m')) : p.run call d xs m2 = some (v, m2) := by
  unfold Prim.run at h ⊢
  split at h
  · obtain ⟨y, h1, h2⟩ := Option.map_eq_some_iff.1 h
    injection h2 with h2 _
    subst h2
    rw [h1]; rfl
  · rename_i h0; exact absurd h0 hk1
  · obtain ⟨y, h1, h2⟩ := Option.map_eq_some_iff.1 h
    injection h2 with h2 _
    subst h2
    rw [h1]; rfl
  · rename_i h0 h1 h3
    exfalso
    cases p <;> simp [Prim.kind] at hk h0 h1 h3 hk1

/-- An operation from another state that is alike where it looks. -/
theorem exec_move {y : AOp} {s s1 s2 : St} (h : y.exec call s1 = some s2) (hl : ∀ t ∈ y.looks, get s.env t = get s1.env t) (hm : (y.pr.kind ≠ 1 ∧ y.pr.kind ≠ 2) ∨ s.mem = s1.mem) :
    ∃ t1, y.exec call s = some t1 ∧ (∀ t ∈ y.writes, get t1.env t = get s2.env t) ∧ (s.mem = s1.mem → t1.mem = s2.mem) ∧ (y.pr.kind ≠ 2 → t1.mem = s.mem ∧ s2.mem = s1.mem) := by
  unfold AOp.exec at h ⊢
  obtain ⟨⟨v, m⟩, h1, h2⟩ := Option.map_eq_some_iff.1 h
  subst h2
  have hra : y.args.map (readArg s.env) = y.args.map (readArg s1.env) := readArgs_congr (fun ar har => by
    have : ∀ n ∈ argSlot ar, get s.env n = get s1.env n := fun n hn => hl n (List.mem_append_left _ (List.mem_flatMap.2 ⟨ar, har, hn⟩))
    cases ar with
    | t n => simp only [readArg]; rw [this n (by simp [argSlot])]
    | k n => simp only [readArg]; rw [this n (by simp [argSlot])]
    | c x => rfl)
  have hget : ∀ t ∈ y.writes, ∀ v, get (putO (stripTakes s.env y.args) y.dst v) t = get (putO (stripTakes s1.env y.args) y.dst v) t := by
    intro t ht v
    simp only [putO_get, stripTakes_eq]
    by_cases hd : hasDst t y.dst = true
    · simp [hd]
    · simp only [hd, Bool.false_eq_true, if_false]
      simp only [AOp.writes, List.mem_append] at ht
      have htk : t ∈ y.args.flatMap takeSlot := by
        rcases ht with ht | ht
        · exact ht
        · exfalso; apply hd
          cases hdd : y.dst with
          | none => rw [hdd] at ht; simp at ht
          | some d => rw [hdd] at ht; simp at ht; simp [hasDst, ht]
      obtain ⟨ar, har, hta⟩ := List.mem_flatMap.1 htk
      have : get s.env t = get s1.env t := by
        refine hl t (List.mem_append_left _ (List.mem_flatMap.2 ⟨ar, har, ?_⟩))
        cases ar <;> simp [takeSlot] at hta
        subst hta; simp [argSlot]
      rw [this]
  by_cases hk : y.pr.kind ≠ 1 ∧ y.pr.kind ≠ 2
  · have hmm := run_mem hk.2 h1
    have := run_anymem hk.2 hk.1 s.mem h1
    rw [hra, this]
    refine ⟨_, rfl, fun t ht => hget t ht v, fun hs => ?_, fun _ => ⟨rfl, hmm⟩⟩
    show s.mem = m
    rw [hs, hmm]
  · have hs : s.mem = s1.mem := hm.resolve_left hk
    rw [hra, hs, h1]
    refine ⟨_, rfl, fun t ht => hget t ht v, fun _ => rfl, fun hk2 => ?_⟩
    have := run_mem hk2 h1
    exact ⟨this, this⟩

theorem skip_move {y : AOp} {s s1 s2 : St} (h : some ({ s1 with env := putO s1.env y.dst .undef } : St) = some s2) (hl : ∀ t ∈ y.looks, get s.env t = get s1.env t) :
    ∃ t1, some ({ s with env := putO s.env y.dst .undef } : St) = some t1 ∧ (∀ t ∈ y.writes, get t1.env t = get s2.env t) ∧ (s.mem = s1.mem → t1.mem = s2.mem) ∧ (y.pr.kind ≠ 2 → t1.mem = s.mem ∧ s2.mem = s1.mem) := by
  injection h with h
  subst h
  refine ⟨_, rfl, fun t ht => ?_, fun hs => hs, fun _ => ⟨rfl, rfl⟩⟩
  simp only [putO_get]
  by_cases hd : hasDst t y.dst = true
  · simp [hd]
  · simp only [hd, Bool.false_eq_true, if_false]
    simp only [AOp.writes, List.mem_append] at ht
    rcases ht with ht | ht
    · obtain ⟨ar, har, hta⟩ := List.mem_flatMap.1 ht
      refine hl t (List.mem_append_left _ (List.mem_flatMap.2 ⟨ar, har, ?_⟩))
      cases ar <;> simp [takeSlot] at hta
      subst hta; simp [argSlot]
    · exfalso; apply hd
      cases hdd : y.dst with
      | none => rw [hdd] at ht; simp at ht
      | some d => rw [hdd] at ht; simp at ht; simp [hasDst, ht]

theorem evOp_move {y : AOp} {s s1 s2 : St} (h : evOp call y s1 = some s2) (hl : ∀ t ∈ y.looks, get s.env t = get s1.env t) (hm : (y.pr.kind ≠ 1 ∧ y.pr.kind ≠ 2) ∨ s.mem = s1.mem) :
    ∃ t1, evOp call y s = some t1 ∧ (∀ t ∈ y.writes, get t1.env t = get s2.env t) ∧ (s.mem = s1.mem → t1.mem = s2.mem) ∧ (y.pr.kind ≠ 2 → t1.mem = s.mem ∧ s2.mem = s1.mem) := by
  unfold evOp at h ⊢
  split at h
  · exact exec_move h hl hm
  · rename_i g b hg
    have hgg : get s.env g = get s1.env g := hl g (List.mem_append_right _ (by rw [hg]; simp))
    split at h
    · rename_i c hc
      rw [hc] at hgg
      simp only [hgg]
      cases hcb : (c == b) with
      | true => rw [hcb] at h; exact exec_move h hl hm
      | false => rw [hcb] at h; exact skip_move h hl
    · rename_i hc
      rw [hc] at hgg
      simp only [hgg]
      exact skip_move h hl
    · cases h

/-- y behind x is y ahead of x. -/
theorem evOp_comm {x y : AOp} (hc : comm x y = true) {s s1 s2 : St} (h1 : evOp call x s = some s1) (h2 : evOp call y s1 = some s2) :
    ∃ t1 t2, evOp call y s = some t1 ∧ evOp call x t1 = some t2 ∧ Same s2 t2 := by
  simp only [comm, Bool.and_eq_true, Bool.not_eq_true', Bool.or_eq_false_iff, Bool.and_eq_false_iff, beq_eq_false_iff_ne, ne_eq] at hc
  obtain ⟨⟨⟨c1, c2⟩, c3⟩, c4, c5⟩ := hc
  have hx0 : ∀ t, t ∉ x.writes → get s1.env t = get s.env t := fun t ht => evOp_keeps h1 ht
  have hy0 : ∀ t, t ∉ y.writes → get s2.env t = get s1.env t := fun t ht => evOp_keeps h2 ht
  have hly : ∀ t ∈ y.looks, get s.env t = get s1.env t := fun t ht => (hx0 t (fun hw => disj_not c1 hw ht)).symm
  obtain ⟨_, _, _, _, xm⟩ := evOp_move (s := s) h1 (fun _ _ => rfl) (.inr rfl)
  have hmem1 : x.pr.kind ≠ 2 → s1.mem = s.mem := fun hk => (xm hk).2
  have hmy : (y.pr.kind ≠ 1 ∧ y.pr.kind ≠ 2) ∨ s.mem = s1.mem := by
    by_cases hk : y.pr.kind = 1 ∨ y.pr.kind = 2
    · right
      refine (hmem1 (fun hx => ?_)).symm
      rcases hk with hk | hk
      · exact c4.elim (fun h => h hx) (fun h => h.1 hk)
      · exact c4.elim (fun h => h hx) (fun h => h.2 hk)
    · left; exact ⟨fun h => hk (.inl h), fun h => hk (.inr h)⟩
  obtain ⟨t1, e1, e2, e3, e4⟩ := evOp_move h2 hly hmy
  have hy1 : ∀ t, t ∉ y.writes → get t1.env t = get s.env t := fun t ht => evOp_keeps e1 ht
  have hlx : ∀ t ∈ x.looks, get t1.env t = get s.env t := fun t ht => hy1 t (fun hw => disj_not c3 hw ht)
  have hmx : (x.pr.kind ≠ 1 ∧ x.pr.kind ≠ 2) ∨ t1.mem = s.mem := by
    by_cases hk : y.pr.kind = 2
    · left
      refine ⟨fun hx => ?_, fun hx => ?_⟩
      · exact c5.elim (fun h => h hx) (fun h => h hk)
      · exact c4.elim (fun h => h hx) (fun h => h.2 hk)
    · exact .inr (e4 hk).1
  obtain ⟨t2, f1, f2, f3, f4⟩ := evOp_move h1 hlx hmx
  have hx1 : ∀ t, t ∉ x.writes → get t2.env t = get t1.env t := fun t ht => evOp_keeps f1 ht
  refine ⟨t1, t2, e1, f1, fun t => ?_, ?_⟩
  · by_cases hw : t ∈ x.writes
    · rw [hy0 t (fun hy => disj_not c2 hw hy), f2 t hw]
    · rw [hx1 t hw]
      by_cases hwy : t ∈ y.writes
      · exact (e2 t hwy).symm
      · rw [hy1 t hwy, hy0 t hwy, hx0 t hw]
  · by_cases hk : x.pr.kind = 2
    · have hy2 : y.pr.kind ≠ 2 := fun h => c4.elim (fun h' => h' hk) (fun h' => h'.2 h)
      rw [(e4 hy2).2, f3 (e4 hy2).1]
    · rw [(f4 hk).1]
      exact (e3 (hmem1 hk).symm).symm

/-- One operation may be taken out of a row to its head, past such as may change places with it. -/
theorem evOps_front {y : AOp} : ∀ (l1 l2 : List AOp) {s s' : St}, (∀ x ∈ l1, comm x y = true) → evOps call (l1 ++ y :: l2) s = some s' →
    ∃ s1 s'', evOp call y s = some s1 ∧ evOps call (l1 ++ l2) s1 = some s'' ∧ Same s' s''
  | [], l2, s, s', _, h => by
    simp only [List.nil_append, evOps] at h
    obtain ⟨s1, h1, h2⟩ := bind_some_iff.1 h
    exact ⟨s1, s', h1, h2, Same.refl _⟩
  | x :: l1, l2, s, s', hc, h => by
    simp only [List.cons_append, evOps] at h
    obtain ⟨s1, h1, h2⟩ := bind_some_iff.1 h
    obtain ⟨s2, s3, h3, h4, h5⟩ := evOps_front l1 l2 (fun z hz => hc z (by simp [hz])) h2
    obtain ⟨t1, t2, e1, e2, e3⟩ := evOp_comm (hc x (by simp)) h1 h3
    obtain ⟨s3', e4, e5⟩ := evOps_congr e3 h4
    refine ⟨t1, s3', e1, ?_, h5.trans e5⟩
    simp only [List.cons_append, evOps, e2, Option.bind_some]
    exact e4

/-- What must have come up ahead of each operation. -/
def preds (o : Oper) : List Nat := (o.after.toList.filter (Region.binds .any)).map (·.on)
def reach : List Oper → List (List Nat) → List (List Nat)
  | [], acc => acc
  | o :: os, acc => reach os (acc ++ [(preds o).flatMap fun e => e :: acc.getD e []])

def drawOk (ops : Array Oper) (aos : List AOp) : Bool :=
  let rs := reach ops.toList []
  (ops.toList.zipIdx.all fun (o, i) => (preds o).all fun e => decide (e < i)) &&
  (aos.zipIdx.all fun (y, i) => aos.zipIdx.all fun (x, j) => Nat.ble i j || comm x y || (rs.getD i []).contains j)

def Listed (listed : Array Bool) (j : Nat) : Prop := listed.getD j false = true
def Closed (ops : Array Oper) (listed : Array Bool) : Prop := ∀ j o, ops[j]? = some o → Listed listed j → ∀ e ∈ preds o, Listed listed e

theorem reach_sound (ops : Array Oper) (listed : Array Bool) (hc : Closed ops listed) : ∀ (os : List Oper) (acc : List (List Nat)), (∀ i, os[i]? = ops[acc.length + i]?) →
    (∀ i o, i < acc.length → ops[i]? = some o → (∀ e ∈ preds o, Listed listed e) → ∀ j ∈ acc.getD i [], Listed listed j) →
    ∀ i o, ops[i]? = some o → (∀ e ∈ preds o, Listed listed e) → ∀ j ∈ (reach os acc).getD i [], Listed listed j
  | [], acc, hos, hacc, i, o, hi, hp, j, hj => by
    rcases Nat.lt_or_ge i acc.length with h | h
    · exact hacc i o h hi hp j hj
    · have := hos (i - acc.length)
      rw [show acc.length + (i - acc.length) = i by omega, hi] at this
      simp at this
  | o' :: os, acc, hos, hacc, i, o, hi, hp, j, hj => by
    refine reach_sound ops listed hc os (acc ++ [(preds o').flatMap fun e => e :: acc.getD e []]) (fun k => ?_) (fun k q hk hq hpq j' hj' => ?_) i o hi hp j hj
    · have := hos (k + 1)
      simp only [List.getElem?_cons_succ] at this
      rw [this, List.length_append, List.length_singleton]
      congr 1; omega
    · rw [List.length_append, List.length_singleton] at hk
      by_cases hlt : k < acc.length
      · refine hacc k q hlt hq hpq j' ?_
        simpa [List.getD, List.getElem?_append_left hlt] using hj'
      · have hke : k = acc.length := by omega
        subst hke
        have h0 := hos 0
        simp only [List.getElem?_cons_zero, Nat.add_zero] at h0
        rw [hq] at h0
        cases h0
        have hj2 : j' ∈ (preds o').flatMap fun e => e :: acc.getD e [] := by simpa [List.getD] using hj'
        obtain ⟨e, he, hje⟩ := List.mem_flatMap.1 hj2
        rcases List.mem_cons.1 hje with rfl | hje
        · exact hpq _ he
        · have hel := hpq e he
          rcases Nat.lt_or_ge e acc.length with h | h
          · cases hoe : ops[e]? with
            | none =>
              have : acc.length + 0 < ops.size := (Array.getElem?_eq_some_iff.1 (by simpa using hq)).1
              rw [Array.getElem?_eq_none_iff] at hoe
              omega
            | some oe => exact hacc e oe h hoe (hc e oe hoe hel) j' hje
          · simp [List.getD, List.getElem?_eq_none h] at hje

theorem mem_preds {o : Oper} {e : Edge} (he : e ∈ o.after) (hb : Region.binds .any e = true) : e.on ∈ preds o :=
  List.mem_map.2 ⟨e, List.mem_filter.2 ⟨by simpa using he, hb⟩, rfl⟩

theorem listed_set {listed : Array Bool} {i j : Nat} (h : Listed listed j) : Listed (listed.setIfInBounds i true) j := by
  unfold Listed at *
  rw [Array.getD_eq_getD_getElem?, Array.getElem?_setIfInBounds] at *
  split
  · split
    · rfl
    · rename_i h1 h2
      subst h1
      rw [Array.getElem?_eq_none_iff.2 (by omega)] at h
      simp at h
  · exact h

/-- The row of what has not come up. -/
structure Rem (aos : List AOp) (listed : Array Bool) (rem : List (Nat × AOp)) : Prop where
  size : listed.size = aos.length
  mem : ∀ p ∈ rem, aos[p.1]? = some p.2 ∧ listed.getD p.1 true = false
  all : ∀ j ao, aos[j]? = some ao → listed.getD j true = false → (j, ao) ∈ rem
  sorted : rem.Pairwise fun p q => p.1 < q.1

theorem Rem.split {aos : List AOp} {listed : Array Bool} {rem : List (Nat × AOp)} (h : Rem aos listed rem) {i : Nat} {ao : AOp} (hi : (i, ao) ∈ rem) :
    ∃ l1 l2, rem = l1 ++ (i, ao) :: l2 ∧ (∀ p ∈ l1, p.1 < i) ∧ Rem aos (listed.setIfInBounds i true) (l1 ++ l2) := by
  obtain ⟨l1, l2, rfl⟩ := List.append_of_mem hi
  have hs := List.pairwise_append.1 h.sorted
  have hs2 := List.pairwise_cons.1 hs.2.1
  have hlt1 : ∀ p ∈ l1, p.1 < i := fun p hp => hs.2.2 p hp (i, ao) (by simp)
  have hlt2 : ∀ p ∈ l2, i < p.1 := fun p hp => hs2.1 p hp
  refine ⟨l1, l2, rfl, hlt1, by simp [h.size], fun p hp => ?_, fun j aj hj hl => ?_, ?_⟩
  · have hne : i ≠ p.1 := by
      rcases List.mem_append.1 hp with hp | hp
      · have := hlt1 p hp; omega
      · have := hlt2 p hp; omega
    obtain ⟨h1, h2⟩ := h.mem p (by rcases List.mem_append.1 hp with hp | hp <;> simp [hp])
    refine ⟨h1, ?_⟩
    rw [Array.getD_eq_getD_getElem?, Array.getElem?_setIfInBounds, if_neg hne, ← Array.getD_eq_getD_getElem?]
    exact h2
  · have hne : i ≠ j := by
      intro e; subst e
      have : i < listed.size := by rw [h.size]; exact (List.getElem?_eq_some_iff.1 hj).1
      rw [Array.getD_eq_getD_getElem?, Array.getElem?_setIfInBounds, if_pos rfl, if_pos this] at hl
      simp at hl
    rw [Array.getD_eq_getD_getElem?, Array.getElem?_setIfInBounds, if_neg hne, ← Array.getD_eq_getD_getElem?] at hl
    have := h.all j aj hj hl
    rcases List.mem_append.1 this with hm | hm
    · exact List.mem_append_left _ hm
    · rcases List.mem_cons.1 hm with hm | hm
      · cases hm; exact absurd rfl hne
      · exact List.mem_append_right _ hm
  · exact List.pairwise_append.2 ⟨hs.1, hs2.2, fun p hp q hq => by have := hlt1 p hp; have := hlt2 q hq; omega⟩

def backOk (ops : Array Oper) : Bool := ops.toList.zipIdx.all fun (o, i) => (preds o).all fun e => decide (e < i)

/-- What has not come up, and stands first in the text, may come up. -/
theorem ready_first {aos : List AOp} (hlen : ops.size = aos.length) (hback : backOk ops = true) {listed : Array Bool} {p : Nat × AOp} {rest : List (Nat × AOp)} (hr : Rem aos listed (p :: rest)) : p.1 ∈ Region.ready .any ops listed := by
  unfold backOk at hback
  obtain ⟨h1, h2⟩ := hr.mem p (by simp)
  have hlt : p.1 < ops.size := by rw [hlen]; exact (List.getElem?_eq_some_iff.1 h1).1
  refine mem_ready.2 ⟨h2, ops[p.1], Array.getElem?_eq_getElem hlt, fun e he hb => ?_⟩
  have hpe := mem_preds he hb
  have hlt2 : e.on < p.1 := by
    simp only [List.all_eq_true] at hback
    have := hback (ops[p.1], p.1) (by
      rw [List.mem_zipIdx_iff_getElem?]
      simp [Array.getElem?_eq_getElem hlt])
    simp only [decide_eq_true_eq] at this
    exact this _ hpe
  cases hle : listed.getD e.on false with
  | true => rfl
  | false =>
    have hlt3 : e.on < aos.length := by omega
    have hunl : listed.getD e.on true = false := by
      have : e.on < listed.size := by rw [hr.size]; exact hlt3
      simp [Array.getD, this] at hle ⊢
      exact hle
    have := hr.all e.on aos[e.on] (List.getElem?_eq_getElem hlt3) hunl
    rcases List.mem_cons.1 this with hm | hm
    · rw [← hm] at hlt2; simp at hlt2
    · have := (List.pairwise_cons.1 hr.sorted).1 _ hm
      simp at this
      omega

theorem unlisted_set {listed : Array Bool} {i j : Nat} (h : (listed.setIfInBounds i true).getD j true = false) : listed.getD j true = false := by
  rw [Array.getD_eq_getD_getElem?, Array.getElem?_setIfInBounds] at h
  split at h
  · split at h <;> simp at h
  · rw [Array.getD_eq_getD_getElem?]; exact h

theorem closed_set {listed : Array Bool} {i : Nat} {o : Oper} (hcl : Closed ops listed) (ho : ops[i]? = some o) (hpl : ∀ e ∈ preds o, Listed listed e) : Closed ops (listed.setIfInBounds i true) := by
  intro j oj hoj hlj e he
  by_cases hji : j = i
  · subst hji
    rw [ho] at hoj
    cases hoj
    exact listed_set (hpl e he)
  · refine listed_set (hcl j oj hoj ?_ e he)
    unfold Listed at hlj ⊢
    rw [Array.getD_eq_getD_getElem?, Array.getElem?_setIfInBounds, if_neg (Ne.symm hji), ← Array.getD_eq_getD_getElem?] at hlj
    exact hlj

theorem any_sound [Base] (hS : Sound P call) (hB : BaseOK G0 w0) {aos : List AOp} (hlen : ops.size = aos.length) (hok : ∀ (i : Nat) (o : Oper) (ao : AOp), ops[i]? = some o → aos[i]? = some ao → okOp P N ops o ao = true) (hback : backOk ops = true)
    {Q : Exit → Act → World → Prop} {s' : St} (hQ : ∀ G' a' w', FInv G0 w0 L N G' a' s' w' → Q .normal a' w') :
    ∀ (fuel : Nat) (listed : Array Bool) (rem : List (Nat × AOp)) (G : Gh) (a : Act) (s s'' : St) (w : World), (∀ i y j x, aos[i]? = some y → aos[j]? = some x → j < i → listed.getD j true = false → comm x y = true ∨ j ∈ (reach ops.toList []).getD i []) →
      rem.length = fuel → Rem aos listed rem → Closed ops listed → FInv G0 w0 L N G a s w → evOps call (rem.map (·.2)) s = some s'' → Same s'' s' →
      wpAny P .any ops Q fuel listed a w := by
  intro fuel
  induction fuel with
  | zero =>
    intro listed rem G a s s'' w hpairs hl hr hcl h hx hs
    have hrem : rem = [] := List.eq_nil_of_length_eq_zero hl
    subst hrem
    simp only [List.map_nil, evOps, Option.some.injEq] at hx
    subst hx
    refine ⟨?_, hQ G a w (h.same hs)⟩
    refine List.eq_nil_iff_forall_not_mem.2 (fun i hi => ?_)
    obtain ⟨h1, o, ho, _⟩ := mem_ready.1 hi
    have hlt : i < aos.length := by rw [← hlen]; exact (Array.getElem?_eq_some_iff.1 ho).1
    have := hr.all i aos[i] (List.getElem?_eq_getElem hlt) h1
    cases this
  | succ fuel ih =>
    intro listed rem G a s s'' w hpairs hl hr hcl h hx hs
    refine ⟨fun hnil => ?_, fun i hi => ?_⟩
    · exfalso
      cases hrem : rem with
      | nil => rw [hrem] at hl; simp at hl
      | cons p rest =>
        rw [hrem] at hr
        have hready := ready_first hlen hback hr
        rw [hnil] at hready
        cases hready
    · obtain ⟨h1, o, ho, h3⟩ := mem_ready.1 hi
      have hlt : i < aos.length := by rw [← hlen]; exact (Array.getElem?_eq_some_iff.1 ho).1
      have hao : aos[i]? = some aos[i] := List.getElem?_eq_getElem hlt
      obtain ⟨l1, l2, hrem, hl1, hr'⟩ := hr.split (hr.all i aos[i] hao h1)
      rw [hrem, List.map_append, List.map_cons] at hx
      have hpl : ∀ e ∈ preds o, Listed listed e := by
        intro e he
        obtain ⟨ed, hed, rfl⟩ := List.mem_map.1 he
        obtain ⟨hm, hb⟩ := List.mem_filter.1 hed
        exact h3 ed (by simpa using hm) hb
      have hcomm : ∀ x ∈ l1.map (·.2), comm x aos[i] = true := by
        intro x hxm
        obtain ⟨p, hp, rfl⟩ := List.mem_map.1 hxm
        have hpi := hl1 p hp
        obtain ⟨q1, q2⟩ := hr.mem p (by rw [hrem]; simp [hp])
        have h4 := hpairs i aos[i] p.1 p.2 hao q1 hpi q2
        rcases h4 with h4 | h4
        · exact h4
        · exfalso
          have := reach_sound ops listed hcl ops.toList [] (fun k => by simp) (fun k q hk => by simp at hk) i o ho hpl p.1 h4
          unfold Listed at this
          have hlt2 : p.1 < listed.size := by rw [hr.size]; exact (List.getElem?_eq_some_iff.1 q1).1
          simp [Array.getD, hlt2] at this q2
          rw [this] at q2; cases q2
      obtain ⟨s1, s3, e1, e2, e3⟩ := evOps_front _ _ hcomm hx
      refine evOp_sound hS hB ho (hok i o _ ho hao) h e1 (fun G' a' w' hF => ?_)
      refine ih _ (l1 ++ l2) G' a' s1 s3 w' (fun i y j x q1 q2 q3 q4 => hpairs i y j x q1 q2 q3 (unlisted_set q4)) ?_ hr' ?_ hF (by rw [List.map_append]; exact e2) (e3.symm.trans hs)
      · rw [hrem] at hl
        simp only [List.length_append, List.length_cons] at hl ⊢
        omega
      · exact closed_set hcl ho hpl

theorem pairs_at {aos : List AOp} {rs : List (List Nat)} (hpairs : (aos.zipIdx.all fun (y, i) => aos.zipIdx.all fun (x, j) => Nat.ble i j || comm x y || (rs.getD i []).contains j) = true)
    {i j : Nat} {x y : AOp} (q1 : aos[i]? = some y) (q2 : aos[j]? = some x) (q3 : j < i) : comm x y = true ∨ j ∈ rs.getD i [] := by
  simp only [List.all_eq_true] at hpairs
  have h4 := hpairs (y, i) (by rw [List.mem_zipIdx_iff_getElem?]; exact q1) (x, j) (by rw [List.mem_zipIdx_iff_getElem?]; exact q2)
  simp only [Bool.or_eq_true] at h4
  rcases h4 with (h4 | h4) | h4
  · rw [Nat.ble_eq] at h4; omega
  · exact .inl h4
  · exact .inr (by simpa using h4)

/-- A region whose order is drawn. -/
theorem draw_sound [Base] (hS : Sound P call) (hB : BaseOK G0 w0) (hm : P.follows .mixedOrders = true) {id : Nat} {aos : List AOp} (hok : okList P N ops ops.toList aos = true) (hd : drawOk ops aos = true) (h : FInv G0 w0 L N G a s w) {s' : St} (hx : evOps call aos s = some s')
    {Q : Exit → Act → World → Prop} (hQ : ∀ G' a' w', FInv G0 w0 L N G' a' s' w' → Q .normal a' w') : (Code.region id ops true).wp P Q a w := by
  obtain ⟨h1, h2⟩ := okList_get hok
  have hlen : ops.size = aos.length := by simpa using h1
  refine wp_region_any hm ?_
  simp only [drawOk, Bool.and_eq_true] at hd
  obtain ⟨hback, hpairs⟩ := hd
  refine any_sound hS hB hlen (fun i o ao ho hao => h2 i o ao (by simpa using ho) hao) hback hQ ops.size _ (aos.zipIdx.map fun p => (p.2, p.1)) G a s s' _ (fun i y j x q1 q2 q3 _ => pairs_at hpairs q1 q2 q3) (by simp [hlen]) ⟨by simp [hlen], fun p hp => ?_, fun j ao hj _ => ?_, ?_⟩ (fun j o ho hl => ?_)
    (h.ready rfl rfl rfl rfl) ?_ (Same.refl _)
  · obtain ⟨q, hq, rfl⟩ := List.mem_map.1 hp
    have hq' := List.mem_zipIdx_iff_getElem?.1 hq
    refine ⟨hq', ?_⟩
    have : q.2 < ops.size := by rw [hlen]; exact (List.getElem?_eq_some_iff.1 hq').1
    simp [Array.getD, this]
  · exact List.mem_map.2 ⟨(ao, j), List.mem_zipIdx_iff_getElem?.2 hj, rfl⟩
  · rw [List.pairwise_map]
    rw [List.pairwise_iff_getElem]
    intro i j hi hj hij
    simp at hi hj ⊢
    exact hij
  · unfold Listed at hl
    rw [Array.getD_eq_getD_getElem?, Array.getElem?_replicate] at hl
    split at hl <;> simp at hl
  · rw [List.map_map]
    have : (aos.zipIdx.map ((fun x => x.2) ∘ fun p => (p.2, p.1))) = aos := by
      simp [Function.comp_def]
    rw [this]; exact hx

/-! A region whose order is open, as far as it tells: D, what may change places with another of D and does not commute with it; alts: orders. -/
def aheads (alt : List Nat) (i : Nat) : List Nat := alt.takeWhile fun j => !(Nat.beq j i)
def commAt (aos : List AOp) (j i : Nat) : Bool :=
  match aos[j]?, aos[i]? with
  | some x, some y => comm x y
  | _, _ => false
/-- May i be the next, of the order alt, where of D those of R have not come up? -/
def okFront (aos : List AOp) (rs : List (List Nat)) (R : List Nat) (i : Nat) (alt : List Nat) : Bool := (aheads alt i).all fun j => !(R.contains j) || commAt aos j i || (rs.getD i []).contains j
/-- Whatever of D comes next, an order is left that has it there. -/
def cov (aos : List AOp) (rs : List (List Nat)) : Nat → List Nat → List (List Nat) → Bool
  | 0, R, _ => R.isEmpty
  | k + 1, R, A => R.all fun i => (R.any fun j => (rs.getD i []).contains j) || (!(A.filter (okFront aos rs R i)).isEmpty && cov aos rs k (R.filter fun j => !(Nat.beq j i)) (A.filter (okFront aos rs R i)))
def altOk (aos : List AOp) (rs : List (List Nat)) (D alt : List Nat) : Bool :=
  (List.range aos.length).all fun i => alt.contains i && ((alt.filter fun j => Nat.beq j i).length.beq 1) && ((aheads alt i).all fun j => (D.contains i && D.contains j) || commAt aos j i || (rs.getD i []).contains j)
def drawOkD (ops : Array Oper) (aos : List AOp) (D : List Nat) (alts : List (List Nat)) : Bool :=
  let rs := reach ops.toList []
  let al := List.range aos.length :: alts
  backOk ops && (al.all (altOk aos rs D) && (D.all fun i => Nat.blt i aos.length) && cov aos rs D.length D al)

def unl (listed : Array Bool) (j : Nat) : Bool := !(listed.getD j true)
theorem unl_iff {listed : Array Bool} {j : Nat} : unl listed j = true ↔ listed.getD j true = false := by unfold unl; simp
/-- What of an order has not come up. -/
def left (aos : List AOp) (listed : Array Bool) (alt : List Nat) : List AOp := pickOps aos (alt.filter (unl listed))

theorem split_at {alt : List Nat} {i : Nat} (h : i ∈ alt) (h1 : (alt.filter fun j => Nat.beq j i).length = 1) : ∃ l2, alt = aheads alt i ++ i :: l2 ∧ i ∉ aheads alt i ∧ i ∉ l2 := by
  induction alt with
  | nil => cases h
  | cons a r ih =>
    by_cases ha : a = i
    · subst ha
      refine ⟨r, by simp [aheads], by simp [aheads], fun hm => ?_⟩
      have : 0 < (r.filter fun j => Nat.beq j a).length := List.length_pos_of_mem (List.mem_filter.2 ⟨hm, Nat.beq_refl a⟩)
      simp only [List.filter_cons, Nat.beq_refl, if_true, List.length_cons] at h1
      omega
    · have hb : Nat.beq a i = false := beq_ne ha
      have hm : i ∈ r := by
        rcases List.mem_cons.1 h with e | e
        · exact absurd e.symm ha
        · exact e
      obtain ⟨l2, e1, e2, e3⟩ := ih hm (by simpa [List.filter_cons, hb] using h1)
      refine ⟨l2, ?_, ?_, e3⟩
      · unfold aheads at e1 ⊢
        rw [List.takeWhile_cons, hb]
        simp only [Bool.not_false, if_true, List.cons_append]
        rw [← e1]
      · unfold aheads at e2 ⊢
        rw [List.takeWhile_cons, hb]
        simp only [Bool.not_false, if_true, List.mem_cons, not_or]
        exact ⟨fun e => ha e.symm, e2⟩

theorem anyD_sound [Base] (hS : Sound P call) (hB : BaseOK G0 w0) {aos : List AOp} (hlen : ops.size = aos.length) (hok : ∀ (i : Nat) (o : Oper) (ao : AOp), ops[i]? = some o → aos[i]? = some ao → okOp P N ops o ao = true) {D : List Nat} {alts : List (List Nat)}
    (hback : backOk ops = true) (halt : ∀ alt ∈ alts, altOk aos (reach ops.toList []) D alt = true)
    {Q : Exit → Act → World → Prop} {s' : St} (hQ : ∀ G' a' w', FInv G0 w0 L N G' a' s' w' → Q .normal a' w') :
    ∀ (fuel : Nat) (listed : Array Bool) (rem : List (Nat × AOp)) (A : List (List Nat)) (k : Nat) (G : Gh) (a : Act) (s : St) (w : World), rem.length = fuel → Rem aos listed rem → Closed ops listed → FInv G0 w0 L N G a s w →
      A ≠ [] → (∀ alt ∈ A, alt ∈ alts) → cov aos (reach ops.toList []) k (D.filter (unl listed)) A = true →
      (∀ alt ∈ A, ∃ s'', evOps call (left aos listed alt) s = some s'' ∧ Same s'' s') → wpAny P .any ops Q fuel listed a w := by
  intro fuel
  induction fuel with
  | zero =>
    intro listed rem A k G a s w hl hr hcl h hA0 hAa hcov hx
    have hrem : rem = [] := List.eq_nil_of_length_eq_zero hl
    subst hrem
    have hall : ∀ i, unl listed i = true → False := fun i hi => by
      rw [unl_iff] at hi
      have hs : i < listed.size := by
        by_cases hs : i < listed.size
        · exact hs
        · simp [Array.getD, hs] at hi
      have hi3 : i < aos.length := by rw [← hr.size]; exact hs
      have := hr.all i aos[i] (List.getElem?_eq_getElem hi3) (by simpa [Array.getD, hs] using hi)
      cases this
    obtain ⟨alt, halt0⟩ := List.exists_mem_of_ne_nil A hA0
    obtain ⟨s'', e0, e00⟩ := hx alt halt0
    have hnil : alt.filter (unl listed) = [] := List.filter_eq_nil_iff.2 fun i _ hi => hall i hi
    unfold left at e0
    rw [hnil] at e0
    simp only [pickOps, List.filterMap_nil, evOps, Option.some.injEq] at e0
    subst e0
    refine ⟨?_, hQ G a w (h.same e00)⟩
    refine List.eq_nil_iff_forall_not_mem.2 (fun i hi => ?_)
    obtain ⟨h1, o, ho, _⟩ := mem_ready.1 hi
    exact hall i (unl_iff.2 h1)
  | succ fuel ih =>
    intro listed rem A k G a s w hl hr hcl h hA0 hAa hcov hx
    refine ⟨fun hnil => ?_, fun i hi => ?_⟩
    · exfalso
      cases hrem : rem with
      | nil => rw [hrem] at hl; simp at hl
      | cons p rest =>
        rw [hrem] at hr
        have hready := ready_first hlen hback hr
        rw [hnil] at hready
        cases hready
    · obtain ⟨h1, o, ho, h3⟩ := mem_ready.1 hi
      have hlt : i < aos.length := by rw [← hlen]; exact (Array.getElem?_eq_some_iff.1 ho).1
      have hi2 : i < listed.size := by rw [hr.size]; exact hlt
      have hao : aos[i]? = some aos[i] := List.getElem?_eq_getElem hlt
      obtain ⟨l1, l2, hrem, hl1, hr'⟩ := hr.split (hr.all i aos[i] hao h1)
      have hpl : ∀ e ∈ preds o, Listed listed e := by
        intro e he
        obtain ⟨ed, hed, rfl⟩ := List.mem_map.1 he
        obtain ⟨hm, hb⟩ := List.mem_filter.1 hed
        exact h3 ed (by simpa using hm) hb
      have hforced : ∀ j, j ∈ (reach ops.toList []).getD i [] → unl listed j = true → False := fun j hj hu => by
        have hl2 : Listed listed j := reach_sound ops listed hcl ops.toList [] (fun k => by simp) (fun k q hk => by simp at hk) i o ho hpl j hj
        rw [unl_iff] at hu
        unfold Listed at hl2
        by_cases hs : j < listed.size
        · simp [Array.getD, hs] at hl2 hu
          rw [hl2] at hu; cases hu
        · simp [Array.getD, hs] at hl2
      have hunl' : ∀ j, unl (listed.setIfInBounds i true) j = (unl listed j && !(Nat.beq j i)) := by
        intro j
        unfold unl
        rw [Array.getD_eq_getD_getElem?, Array.getElem?_setIfInBounds, Array.getD_eq_getD_getElem?]
        by_cases hji : i = j
        · subst hji
          rw [if_pos rfl, if_pos hi2]; simp
        · rw [if_neg hji, beq_ne (fun e => hji e.symm)]; simp
      have hui : unl listed i = true := unl_iff.2 h1
      -- an order that has i next
      have front : ∀ alt ∈ alts, (i ∈ D → okFront aos (reach ops.toList []) (D.filter (unl listed)) i alt = true) → (∃ s'', evOps call (left aos listed alt) s = some s'' ∧ Same s'' s') →
          ∃ s1 s3, evOp call aos[i] s = some s1 ∧ evOps call (left aos (listed.setIfInBounds i true) alt) s1 = some s3 ∧ Same s3 s' := by
        intro alt hm hfr ⟨s'', e0, e00⟩
        have hao2 := halt alt hm
        unfold altOk at hao2
        rw [List.all_eq_true] at hao2
        have hai := hao2 i (List.mem_range.2 hlt)
        simp only [Bool.and_eq_true, List.contains_iff_mem, Nat.beq_eq] at hai
        obtain ⟨⟨hmem, hone⟩, hst⟩ := hai
        obtain ⟨r2, e1, e2, e3⟩ := split_at hmem hone
        have hc : ∀ z ∈ pickOps aos ((aheads alt i).filter (unl listed)), comm z aos[i] = true := by
          intro z hz
          obtain ⟨j, hj, hjz⟩ := List.mem_filterMap.1 hz
          obtain ⟨hj1, hj2⟩ := List.mem_filter.1 hj
          rw [List.all_eq_true] at hst
          have hs := hst j hj1
          simp only [Bool.or_eq_true, Bool.and_eq_true, List.contains_iff_mem] at hs
          have hcm : commAt aos j i = true → comm z aos[i] = true := fun hcc => by
            unfold commAt at hcc
            rw [hjz, hao] at hcc
            exact hcc
          rcases hs with (⟨hs1, hs2⟩ | hs) | hs
          · have hf := hfr hs1
            unfold okFront at hf
            rw [List.all_eq_true] at hf
            have hf2 := hf j hj1
            simp only [Bool.or_eq_true, Bool.not_eq_true', List.contains_iff_mem] at hf2
            rcases hf2 with (hf2 | hf2) | hf2
            · exfalso
              have : j ∈ D.filter (unl listed) := List.mem_filter.2 ⟨hs2, hj2⟩
              rw [← Bool.not_eq_true, List.contains_iff_mem] at hf2
              exact hf2 this
            · exact hcm hf2
            · exact absurd hj2 (fun hu => hforced j hf2 hu)
          · exact hcm hs
          · exact absurd hj2 (fun hu => hforced j hs hu)
        have hl : left aos listed alt = pickOps aos ((aheads alt i).filter (unl listed)) ++ aos[i] :: pickOps aos (r2.filter (unl listed)) := by
          unfold left
          conv => lhs; rw [e1]
          rw [List.filter_append, List.filter_cons, hui]
          simp only [if_true, pickOps, List.filterMap_append, List.filterMap_cons, hao]
        have hl' : left aos (listed.setIfInBounds i true) alt = pickOps aos ((aheads alt i).filter (unl listed)) ++ pickOps aos (r2.filter (unl listed)) := by
          have hk : ∀ l : List Nat, i ∉ l → l.filter (unl (listed.setIfInBounds i true)) = l.filter (unl listed) := fun l hl => List.filter_congr fun j hj => by
            have hji : j ≠ i := fun e => hl (e ▸ hj)
            rw [hunl' j, beq_ne hji]; simp
          unfold left
          conv => lhs; rw [e1]
          rw [List.filter_append, List.filter_cons, hunl' i, Nat.beq_refl]
          simp only [Bool.not_true, Bool.and_false, Bool.false_eq_true, if_false]
          rw [hk _ e2, hk _ e3]
          simp only [pickOps, List.filterMap_append]
        rw [hl] at e0
        obtain ⟨s1, s3, f1, f2, f3⟩ := evOps_front _ _ hc e0
        exact ⟨s1, s3, f1, by rw [hl']; exact f2, f3.symm.trans e00⟩
      -- the orders that are left
      obtain ⟨A', k', g1, g2, g3, g4⟩ : ∃ (A' : List (List Nat)) (k' : Nat), A' ≠ [] ∧ (∀ alt ∈ A', alt ∈ A) ∧ cov aos (reach ops.toList []) k' (D.filter (unl (listed.setIfInBounds i true))) A' = true ∧ ∀ alt ∈ A', i ∈ D → okFront aos (reach ops.toList []) (D.filter (unl listed)) i alt = true := by
        by_cases hiD : i ∈ D
        · have hiR : i ∈ D.filter (unl listed) := List.mem_filter.2 ⟨hiD, hui⟩
          cases k with
          | zero =>
            unfold cov at hcov
            rw [List.isEmpty_iff] at hcov
            rw [hcov] at hiR; cases hiR
          | succ k =>
            unfold cov at hcov
            rw [List.all_eq_true] at hcov
            have hc := hcov i hiR
            simp only [Bool.or_eq_true, Bool.and_eq_true, Bool.not_eq_true', List.any_eq_true, List.contains_iff_mem] at hc
            rcases hc with ⟨j, hj, hjf⟩ | ⟨hc1, hc2⟩
            · exact absurd (List.mem_filter.1 hj).2 (fun hu => hforced j hjf hu)
            · refine ⟨_, k, fun e => ?_, fun alt ha => (List.mem_filter.1 ha).1, ?_, fun alt ha _ => (List.mem_filter.1 ha).2⟩
              · rw [e] at hc1; cases hc1
              · have e : D.filter (unl (listed.setIfInBounds i true)) = (D.filter (unl listed)).filter fun j => !(Nat.beq j i) := by
                  rw [List.filter_filter]
                  exact List.filter_congr fun j _ => by rw [hunl' j, Bool.and_comm]
                rw [e]; exact hc2
        · refine ⟨A, k, hA0, fun _ h => h, ?_, fun _ _ hd => absurd hd hiD⟩
          have e : D.filter (unl (listed.setIfInBounds i true)) = D.filter (unl listed) := List.filter_congr fun j hj => by
            have hji : j ≠ i := fun e => hiD (e ▸ hj)
            rw [hunl' j, beq_ne hji]; simp
          rw [e]; exact hcov
      obtain ⟨alt0, ha0⟩ := List.exists_mem_of_ne_nil A' g1
      obtain ⟨s1, _, e1, _, _⟩ := front alt0 (hAa alt0 (g2 alt0 ha0)) (g4 alt0 ha0) (hx alt0 (g2 alt0 ha0))
      refine evOp_sound hS hB ho (hok i o _ ho hao) h e1 (fun G' a' w' hF => ?_)
      refine ih _ (l1 ++ l2) A' k' G' a' s1 w' ?_ hr' (closed_set hcl ho hpl) hF g1 (fun alt ha => hAa alt (g2 alt ha)) g3 (fun alt ha => ?_)
      · rw [hrem] at hl
        simp only [List.length_append, List.length_cons] at hl ⊢
        omega
      · obtain ⟨s1', s3, f1, f2, f3⟩ := front alt (hAa alt (g2 alt ha)) (g4 alt ha) (hx alt (g2 alt ha))
        rw [e1] at f1
        injection f1 with f1
        subst f1
        exact ⟨s3, f2, f3⟩

/-- A region whose order is drawn, and open. -/
theorem drawD_sound [Base] (hS : Sound P call) (hB : BaseOK G0 w0) (hm : P.follows .mixedOrders = true) {id : Nat} {aos : List AOp} {D : List Nat} {alts : List (List Nat)} (hok : okList P N ops ops.toList aos = true) (hd : drawOkD ops aos D alts = true) (h : FInv G0 w0 L N G a s w) {s' : St} (hx : evOpsD call aos alts s = some s')
    {Q : Exit → Act → World → Prop} (hQ : ∀ G' a' w', FInv G0 w0 L N G' a' s' w' → Q .normal a' w') : (Code.region id ops true).wp P Q a w := by
  obtain ⟨e1, e2⟩ := evOpsD_some.1 hx
  obtain ⟨h1, h2⟩ := okList_get hok
  have hlen : ops.size = aos.length := by simpa using h1
  simp only [drawOkD, Bool.and_eq_true] at hd
  obtain ⟨hback, ⟨d1, d2⟩, d4⟩ := hd
  rw [List.all_eq_true] at d1 d2
  have hun : ∀ j, j < aos.length → unl (Array.replicate ops.size false) j = true := fun j hj => by
    rw [unl_iff]
    have : j < ops.size := by omega
    simp [Array.getD, this]
  refine wp_region_any hm ?_
  refine anyD_sound hS hB hlen (fun i o ao ho hao => h2 i o ao (by simpa using ho) hao) hback d1 hQ ops.size _ (aos.zipIdx.map fun p => (p.2, p.1)) (List.range aos.length :: alts) D.length G a s _ (by simp [hlen]) ⟨by simp [hlen], fun p hp => ?_, fun j ao hj _ => ?_, ?_⟩ (fun j o ho hl => ?_)
    (h.ready rfl rfl rfl rfl) (fun e => ?_) (fun _ h => h) ?_ (fun alt ha => ⟨s', ?_, Same.refl _⟩)
  · obtain ⟨q, hq, rfl⟩ := List.mem_map.1 hp
    have hq' := List.mem_zipIdx_iff_getElem?.1 hq
    refine ⟨hq', ?_⟩
    have : q.2 < ops.size := by rw [hlen]; exact (List.getElem?_eq_some_iff.1 hq').1
    simp [Array.getD, this]
  · exact List.mem_map.2 ⟨(ao, j), List.mem_zipIdx_iff_getElem?.2 hj, rfl⟩
  · rw [List.pairwise_map]
    rw [List.pairwise_iff_getElem]
    intro i j hi hj hij
    simp at hi hj ⊢
    exact hij
  · unfold Listed at hl
    rw [Array.getD_eq_getD_getElem?, Array.getElem?_replicate] at hl
    split at hl <;> simp at hl
  · cases e
  · have e : D.filter (unl (Array.replicate ops.size false)) = D := List.filter_eq_self.2 fun j hj => hun j (by have := d2 j hj; rwa [Nat.blt_eq] at this)
    rw [e]; exact d4
  · have hpk : left aos (Array.replicate ops.size false) alt = pickOps aos alt := by
      unfold left pickOps
      clear ha e1 e2 hx
      induction alt with
      | nil => rfl
      | cons j r ihr =>
        rw [List.filter_cons]
        split
        · simp only [List.filterMap_cons]
          cases aos[j]? <;> simp only [ihr]
        · rename_i hu
          have hj : ¬ j < aos.length := fun hj => hu (hun j hj)
          simp only [List.filterMap_cons, List.getElem?_eq_none (Nat.le_of_not_lt hj)]
          exact ihr
    rw [hpk]
    rcases List.mem_cons.1 ha with rfl | ha
    · have hr : ∀ (l pre : List AOp), pickOps (pre ++ l) (List.range' pre.length l.length) = l := by
        intro l
        induction l with
        | nil => intro _; rfl
        | cons z l ih =>
          intro pre
          have h4 := ih (pre ++ [z])
          rw [List.append_assoc, List.singleton_append, List.length_append, List.length_singleton] at h4
          unfold pickOps at h4 ⊢
          rw [List.length_cons, List.range'_succ, List.filterMap_cons]
          simp only [List.getElem?_append_right (Nat.le_refl _), Nat.sub_self, List.getElem?_cons_zero, h4]
      have hr := hr aos []
      rw [List.nil_append, List.length_nil, ← List.range_eq_range'] at hr
      rw [hr]; exact e1
    · exact e2 alt ha

/-- A region in the text's order. -/
theorem region_sound [Base] (hS : Sound P call) (hB : BaseOK G0 w0) {id : Nat} {aos : List AOp} (hok : okList P N ops ops.toList aos = true) (h : FInv G0 w0 L N G a s w) {s' : St} (hx : evOps call aos s = some s')
    {Q : Exit → Act → World → Prop} (hQ : ∀ G' a' w', FInv G0 w0 L N G' a' s' w' → Q .normal a' w') : (Code.region id ops false).wp P Q a w := by
  obtain ⟨h1, h2⟩ := okList_get hok
  have hlen : ops.size = aos.length := by simpa using h1
  refine wp_region ?_
  rw [hlen, List.range_eq_range']
  refine evOps_sound hS hB hQ aos 0 G a s w (fun j ao hj => ?_) h hx
  have hlt : j < ops.size := by rw [hlen]; exact (List.getElem?_eq_some_iff.1 hj).1
  rw [Nat.zero_add]
  exact ⟨ops[j], Array.getElem?_eq_getElem hlt, h2 j _ ao (by simp [Array.getElem?_eq_getElem hlt]) hj⟩

end
end Go.Proofs.YtpmpofcokkgfdaaGreatDoor.Ev

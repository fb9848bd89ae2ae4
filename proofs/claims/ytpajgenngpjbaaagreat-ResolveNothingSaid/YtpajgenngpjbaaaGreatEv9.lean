import Derived.Test.YtpajgenngpjbaaaGreatEv8
import Derived.Laws.MakeOwn
import Derived.Lib.AppendStr
import Derived.Laws.IdiomStrings
import Derived.MapKept
import Derived.Laws.RangeString
/- An operation of the frame, whatever it is, keeps the frame's invariant and does what the evaluator says. -/
namespace Go.Proofs.YtpajgenngpjbaaaGreat.Ev
open Go

/-- Blocks on which every call counts: the package's variables that a contract reads. -/
class Base where
  blk : Nat → Option Obj
def BaseOK [Base] (G : Gh) (w : World) : Prop := ∀ b o, Base.blk b = some o → w.heap[b]? = some o ∧ G.phi b = none
theorem BaseOK.ext [Base] {L : Nat} {G0 G : Gh} {w0 w : World} (h : BaseOK G0 w0) (e : Ext L G0 w0 G w) : BaseOK G w := fun b o hb => by
  obtain ⟨h1, h2⟩ := h b o hb
  obtain ⟨e1, _, e3⟩ := e.blk b (heap_lt h1) (fun o ho => by rw [h2] at ho; cases ho)
  exact ⟨e1.trans h1, e3.trans h2⟩
/-- A call of function f does what (xs, M) ↦ (r, M') says, from whatever world in which xs and M stand. -/
def CallsOK [Base] (P : Program) (f : Nat) (xs : List V) (M : Mem) (r : V) (M' : Mem) : Prop :=
  callable P f = true ∧ ∀ (G : Gh) (w : World) (cargs : Array Value), Inv G w M → BaseOK G w → (∀ b o, G.phi b = some o → lowOwn M.length o) → SRepL G cargs.toList xs →
    Calls P f cargs w fun e w' => ∃ v G', e = .returned v ∧ SRep G' v r ∧ Inv G' w' M' ∧ Ext M.length G w G' w' ∧ (∀ b o, G'.phi b = some o → lowOwn M.length o ∨ ∃ i, o = .ret i) ∧ M'.length = M.length ∧ Claims G' w' .ret v r

def Sound [Base] (P : Program) (call : CallF) : Prop := ∀ f xs M r M', call f xs M = some (r, M') → CallsOK P f xs M r M'

section
variable {P : Program} {call : CallF} {G0 : Gh} {w0 : World} {L N : Nat} {G : Gh} {a : Act} {s : St} {w : World}

theorem FInv.reads (h : FInv G0 w0 L N G a s w) : ReadsAs G a.eval s.env := fun hk => okArgs_sound h.slots hk

/-- What a result owns goes to a slot; without one it is given up. -/
def retTo (L : Nat) (d : Option Nat) : Own → Option Own
  | .ret i => d.map fun d => .slot L d i
  | o => some o

/-- Through a call. -/
theorem FInv.called (h : FInv G0 w0 L N G a s w) {M' : Mem} {G1 : Gh} {w1 : World} {cv : Value} {r : V} {d : Option Nat} (hd : ∀ t, d = some t → t < N) (hl : M'.length = s.mem.length) (hi : Inv G1 w1 M') (he : Ext s.mem.length G w G1 w1)
    (hf : ∀ b o, G1.phi b = some o → lowOwn s.mem.length o ∨ ∃ i, o = .ret i) (hr : SRep G1 cv r) (hc : Claims G1 w1 .ret cv r) (l : List AArg) :
    ∃ G2, FInv G0 w0 L N G2 (a.put d cv) { env := putO (stripTakes s.env l) d r, mem := M' } w1 := by
  have hlv : s.mem.length = L + 1 := h.lvl
  rw [hlv] at he hf
  have g : GLe G G1 := ⟨by rw [h.inv.lv, hi.lv, hl]; exact Nat.le_refl _, he.K, fun l t p hlt hb => he.lam l t p (by rw [h.inv.lv, hlv] at hlt; exact hlt) hb⟩
  have hext : Ext L G0 w0 G1 w1 := ⟨fun b o v hv => he.K _ _ _ (h.ext.K b o v hv), fun l t p hlt hp => he.lam l t p (by omega) (h.ext.lam l t p hlt hp), Nat.le_trans h.ext.size he.size, he.os.trans h.ext.os, he.tape.trans h.ext.tape, he.output.trans h.ext.output,
    fun b hb hn => by
      obtain ⟨e1, e2, e3⟩ := h.ext.blk b hb hn
      obtain ⟨c1, c2, c3⟩ := he.blk b (Nat.lt_of_lt_of_le hb h.ext.size) (fun o ho => hn o (by rw [← e3]; exact ho))
      exact ⟨c1.trans e1, fun o => (c2 o).trans (e2 o), c3.trans e3⟩, fun b l t hlt hb => by
      obtain ⟨t1, h1⟩ := h.ext.box b l t hlt hb
      exact he.box b l t1 (by omega) h1⟩
  refine ⟨G1.ren (retTo L d), ⟨hi.lv, hi.two, hi.kh, fun l t cs hm => (hi.mem l t cs hm).ren rfl (fun _ => rfl), hi.lamBox, hi.lamL, fun b hb => hi.phiL b (fun h0 => hb (by simp [Gh.ren, h0]))⟩,
    by show M'.length = _; rw [hl]; exact hlv, h.two, by rw [put_size]; exact h.size, by rw [put_defers]; exact h.defers, put_slots h.size hd (fun _ => hr.mono (ren_gle G1 _)) (fun t => ((h.slots t).mono g).mono (ren_gle G1 _)) l,
    put_claims h.size hd (fun t ht => ?_) (fun t _ => ?_), hext.ren h.fresh0 (fun _ _ _ => rfl) (fun _ _ _ _ => rfl), h.fresh0, fun b o hb => ?_⟩
  · subst ht
    exact hc.ren (fun i p _ => rfl)
  · have h1 : Claims G1 w1 (.slot L t) (a.tmps.getD t Go.undef) (get (stripTakes s.env l) t) := by
      intro i sz xs hcl
      rcases h.own t i sz xs (stripTakes_claim hcl) with h1 | ⟨g', cap, cur, e, fz, h1, h2, h3, h4, h5, h6, h7, h8⟩
      · exact .inl h1
      · obtain ⟨c1, c2, c3⟩ := he.blk g' (heap_lt h3) (fun o ho => by rw [h2] at ho; cases ho; rfl)
        exact .inr ⟨g', cap, cur, e, fz, h1, by rw [c3]; exact h2, by rw [c1]; exact h3, h4, h5, h6, h7, fun o ho => by rw [c2]; exact h8 o ho⟩
    exact h1.ren (fun i p _ => rfl)
  · obtain ⟨o1, h1, h2⟩ := bind_some_iff.1 (show (G1.phi b).bind (retTo L d) = some o from hb)
    rcases hf b o1 h1 with h3 | ⟨i, rfl⟩
    · cases o1 with
      | ret i => exact h3.elim
      | box l t => cases h2; trivial
      | cell l t i => cases h2; trivial
      | slot l t i => cases h2; exact h3
    · obtain ⟨d', rfl, h4⟩ := Option.map_eq_some_iff.1 (show d.map (fun d => Own.slot L d i) = some o from h2)
      subst h4
      show L < L + 1
      omega

def Gh.bare (G : Gh) : Gh := { lv := 2, K := G.K, lam := fun _ _ => none, phi := fun _ => none }

theorem SRepL.noLocal {G' : Gh} (hK : G'.K = G.K) : ∀ {vs : List Value} {xs : List V}, SRepL G vs xs → (∀ x ∈ xs, isLocal x = false) → SRepL G' vs xs
  | _, _, .nil, _ => .nil
  | _, _, .cons r rs, h => .cons (.data (by rw [hK]; exact r.toRep (h _ (by simp)))) (SRepL.noLocal hK rs (fun x hx => h x (by simp [hx])))

theorem SRep.noLocal {G' : Gh} (hK : G'.K = G.K) {v : Value} {x : V} (h : SRep G v x) (hx : deepLocal x = false) : SRep G' v x := by
  cases x with
  | tup vs =>
    obtain ⟨us, rfl, hr⟩ := h.tup_inv
    exact .tup us vs (SRepL.noLocal hK hr (by simpa [deepLocal] using hx))
  | _ => exact .data (by rw [hK]; exact h.toRep hx)

theorem bare_inv {M : Mem} (hI : Inv G w M) : Inv G.bare w [[], []] := by
  refine ⟨rfl, by simp, hI.kh, fun l t cs hm => ?_, fun _ _ _ _ => rfl, fun _ _ _ h => (by cases h), fun b hb => absurd rfl hb⟩
  have : mget [[], []] l t = none := by
    simp only [mget, bget]
    cases Nat.beq l [([] : Boxes)].length <;> cases Nat.beq l ([] : Mem).length <;> rfl
  rw [this] at hm
  cases hm

/-- Through a call that was handed no memory: every block that stood stands as it was. -/
theorem FInv.calledPure (h : FInv G0 w0 L N G a s w) {G1 : Gh} {w1 : World} {cv : Value} {r : V} {m1 : Mem} {d : Option Nat} (hd : ∀ t, d = some t → t < N) (he : Ext 2 G.bare w G1 w1) (hi : Inv G1 w1 m1) (hr : SRep G1 cv r) (hx : deepLocal r = false)
    (hc : Claims G1 w1 .ret cv r) (l : List AArg) : ∃ G2, FInv G0 w0 L N G2 (a.put d cv) { s with env := putO (stripTakes s.env l) d r } w1 := by
  have hb : ∀ b, b < w.heap.size → w1.heap[b]? = w.heap[b]? ∧ (∀ o, G1.K b o = G.K b o) ∧ G1.phi b = none := fun b hb => by
    obtain ⟨e1, e2, e3⟩ := he.blk b hb (fun o ho => by cases ho)
    exact ⟨e1, e2, e3⟩
  let G2 : Gh := { lv := G.lv, K := G1.K, lam := G.lam, phi := fun b => if b < w.heap.size then G.phi b else match G1.phi b with | some (.ret i) => d.map (fun d => .slot L d i) | _ => none }
  have hphi : ∀ b, b < w.heap.size → G2.phi b = G.phi b := fun b hb => if_pos hb
  have c : Chg (fun _ => False) G w G2 w1 := ⟨rfl, he.K, fun _ _ _ h => h, he.size, he.os, he.tape, he.output, fun b hlt _ => ⟨(hb b hlt).1, (hb b hlt).2.1, hphi b hlt⟩⟩
  refine ⟨G2, ⟨h.inv.lv, h.inv.two, hi.kh, fun l t cs hm => c.box h.inv.lamL (h.inv.mem l t cs hm) (fun _ _ _ hf => hf), h.inv.lamBox, fun l t p hl => Nat.lt_of_lt_of_le (h.inv.lamL l t p hl) he.size, fun b hb' => ?_⟩,
    h.lvl, h.two, by rw [put_size]; exact h.size, by rw [put_defers]; exact h.defers, put_slots h.size hd (fun _ => SRep.noLocal (G := G1) (G' := G2) rfl hr hx) (fun t => (h.slots t).mono c.gle) l,
    put_claims h.size hd (fun t ht => ?_) (fun t _ => c.claims (stripTakes_claims (h.own t)) (fun _ _ _ _ hf => hf)), c.ext h.ext (fun _ _ _ hf => hf) (fun b l t _ _ h1 => ?_), h.fresh0, fun b o hb' => ?_⟩
  · by_cases hlt : b < w.heap.size
    · exact Nat.lt_of_lt_of_le hlt he.size
    · refine hi.phiL b (fun h0 => hb' ?_)
      show (if b < w.heap.size then _ else _) = _
      rw [if_neg hlt, h0]
  · subst ht
    intro i sz xs hcl
    rcases hc i sz xs hcl with h1 | ⟨g', cap, cur, e, fz, h1, h2, h3⟩
    · exact .inl h1
    · refine .inr ⟨g', cap, cur, e, fz, h1, ?_, h3⟩
      have hlt : ¬ g' < w.heap.size := fun hlt => by rw [(hb g' hlt).2.2] at h2; cases h2
      show (if g' < w.heap.size then _ else _) = _
      rw [if_neg hlt, h2]; rfl
  · have := h.inv.phiL b (by rw [h1]; simp)
    rw [hphi b this]; exact h1
  · replace hb' : (if b < w.heap.size then G.phi b else match G1.phi b with | some (.ret i) => d.map (fun d => Own.slot L d i) | _ => none) = some o := hb'
    split at hb'
    · exact h.fresh b o hb'
    · split at hb'
      · obtain ⟨d', rfl, h4⟩ := Option.map_eq_some_iff.1 hb'
        subst h4
        show L < L + 1
        omega
      · cases hb'

/-- The same, where the result's first part is an owned row: it becomes a box of the frame's. -/
theorem FInv.calledThaw (h : FInv G0 w0 L N G a s w) {G1 : Gh} {w1 : World} {cv : Value} {xs q : List V} {m1 : Mem} {d : Nat} {b0 : Boxes} {m : Mem} (hd : d < N) (hm : s.mem = b0 :: m) (hb0 : bget b0 d = none) (he : Ext 2 G.bare w G1 w1) (hi : Inv G1 w1 m1)
    (hr : SRep G1 cv (.tup (.list 1 xs true :: q))) (hc : Claims G1 w1 .ret cv (.tup (.list 1 xs true :: q))) (hne : xs ≠ []) (hxs : xs.all scalar = true) (hq : q.all scalar = true) (l : List AArg) :
    ∃ G2, FInv G0 w0 L N G2 (a.put (some d) cv) { env := put (stripTakes s.env l) d (.tup (.slc L d 0 1 xs.length :: q)), mem := bput b0 d xs :: m } w1 := by
  have hL : m.length = L := by have := h.lvl; rw [hm] at this; simpa using this
  have h2 := h.two
  have hb : ∀ b, b < w.heap.size → w1.heap[b]? = w.heap[b]? ∧ (∀ o, G1.K b o = G.K b o) ∧ G1.phi b = none := fun b hb => by
    obtain ⟨e1, e2, e3⟩ := he.blk b hb (fun o ho => by cases ho)
    exact ⟨e1, e2, e3⟩
  obtain ⟨us, rfl, hus⟩ := hr.tup_inv
  cases hus with | cons hu hus =>
  rename_i u us
  have hcl := hc 1 1 xs rfl
  have hcomp : comp (Value.tuple (u :: us).toArray) 1 = u := by simp [comp]
  rw [hcomp] at hcl
  rcases hcl with ⟨h0, _⟩ | ⟨g, cap, cur, ty, fz, h1, h3, h4, h5, h6, h7, h8, h9⟩
  · exact absurd h0 hne
  obtain rfl : u = .slice (some ⟨g, 0, none⟩) xs.length cap := by
    rcases h1 with h1 | ⟨_, h0, _⟩
    · exact h1
    · exact absurd h0 hne
  have hg : ¬ g < w.heap.size := fun hlt => by rw [(hb g hlt).2.2] at h3; cases h3
  have hg1 : g < w1.heap.size := heap_lt h4
  have hxl : xs.length ≤ cur.size := by omega
  -- what stands in the row
  have hrows : ∀ K : Know, RepL K (cur.toList.take xs.length) xs := by
    intro K
    have hrep := hu.toRep rfl
    generalize hx : V.list 1 xs true = X at hrep
    generalize hy : Value.slice (some ⟨g, 0, none⟩) xs.length cap = Y at hrep
    cases hrep <;> cases hx
    · cases hy
    · cases hy; exact absurd rfl hne
    · rename_i b o cap' vs rK r2 r3 rR r5
      cases hy
      rw [scalar_flat hxs] at rR
      have hlen := rR.length
      have e : cur.toList.take xs.length = vs := by
        apply List.ext_getElem?
        intro i
        rw [List.getElem?_take]
        by_cases hilt : i < xs.length
        · rw [if_pos hilt]
          have hv : vs[i]? = some (vs[i]'(by omega)) := List.getElem?_eq_getElem (by omega)
          have hk := hi.kh _ _ _ (rK i _ hv)
          rw [cell_of_heap h4, Nat.zero_add] at hk
          rw [hv, Array.getElem?_toList]
          exact hk
        · rw [if_neg hilt, List.getElem?_eq_none (by omega)]
      rw [e]
      exact scalar_reps rR hxs
  have hlam0 : G.lam L d = none := h.inv.lamBox L d (by rw [h.lvl]; omega) (by rw [hm]; simp [mget, hL, hb0])
  let K3 : Know := fun b o => if b = g then none else G1.K b o
  let G3 : Gh := { lv := G.lv, K := K3, lam := fun l t => if l = L ∧ t = d then some (g, cur.size) else G.lam l t, phi := fun b => if b = g then some (.box L d) else if b < w.heap.size then G.phi b else none }
  have hK : KLe G.K K3 := fun b o v hv => by
    have hlt := kh_lt h.inv.kh hv
    show (if b = g then none else G1.K b o) = some v
    rw [if_neg (by rintro rfl; exact hg hlt)]
    exact he.K _ _ _ hv
  have c : Chg (fun _ => False) G w G3 w1 := by
    refine ⟨rfl, hK, fun l t p hp => ?_, he.size, he.os, he.tape, he.output, fun b hlt _ => ⟨(hb b hlt).1, fun o => ?_, ?_⟩⟩
    · show (if _ then _ else _) = _
      rw [if_neg (by rintro ⟨rfl, rfl⟩; rw [hlam0] at hp; cases hp)]; exact hp
    · show (if b = g then none else G1.K b o) = _
      rw [if_neg (by rintro rfl; exact hg hlt)]; exact (hb b hlt).2.1 o
    · show (if b = g then _ else _) = _
      rw [if_neg (by rintro rfl; exact hg hlt), if_pos hlt]
  have hglam : G3.lam L d = some (g, cur.size) := by
    show (if _ then _ else _) = _
    rw [if_pos ⟨rfl, rfl⟩]
  have hgphi : G3.phi g = some (.box L d) := if_pos rfl
  have hres : SRep G3 (.tuple (.slice (some ⟨g, 0, none⟩) xs.length cap :: us).toArray) (.tup (.slc L d 0 1 xs.length :: q)) := by
    refine .tup _ _ (.cons (.slc L d 0 1 xs.length g cur.size 0 cap (by show L < G.lv; rw [h.inv.lv, h.lvl]; omega) (by omega) hglam ⟨h7, h8⟩ (.inr ⟨rfl, by omega⟩)) ?_)
    exact RepL.toS (G := G3) (scalar_reps (repOfAll hus (fun x hx => scalar_local (List.all_eq_true.1 hq x hx))) hq)
  have hnc : noClaim (.tup (.slc L d 0 1 xs.length :: q)) := by
    intro i
    rcases i with _ | _ | i
    · rfl
    · rfl
    · simp only [claim, List.getElem?_cons_succ]
      cases hqi : q[i]? with
      | none => rfl
      | some y =>
        have := List.all_eq_true.1 hq y (List.mem_of_getElem? hqi)
        cases y <;> first | rfl | cases this
  have hmg : ∀ l t, mget (bput b0 d xs :: m) l t = if l = L ∧ t = d then some xs else mget s.mem l t := by
    intro l t
    rw [hm]
    simp only [mget, hL]
    by_cases hl : l = L
    · subst hl; simp [bget_bput]
    · rw [beq_ne hl]; simp [hl]
  refine ⟨G3, ⟨by show G.lv = _; rw [h.inv.lv, hm]; rfl, by have := h.inv.two; rw [hm] at this; simpa using this, fun b o v hv => ?_, fun l t cs hg' => ?_, fun l t hl hg' => ?_, fun l t p hl => ?_, fun b hb' => ?_⟩, by simp [hL], h.two, by rw [put_size]; exact h.size, by rw [put_defers]; exact h.defers,
    put_slots h.size (by rintro t ht; cases ht; exact hd) (fun _ => hres) (fun t => (h.slots t).mono c.gle) l, put_claims h.size (by rintro t ht; cases ht; exact hd) (fun t _ => Claims.none hnc) (fun t _ => c.claims (stripTakes_claims (h.own t)) (fun _ _ _ _ hf => hf)),
    c.ext h.ext (fun _ _ _ hf => hf) (fun b l t hl h0 h1 => ?_), h.fresh0, fun b o hb' => ?_⟩
  · replace hv : (if b = g then none else G1.K b o) = some v := hv
    split at hv
    · cases hv
    · exact hi.kh b o v hv
  · rw [hmg] at hg'
    by_cases hlt : l = L ∧ t = d
    · obtain ⟨rfl, rfl⟩ := hlt
      simp only [and_self, if_true, Option.some.injEq] at hg'
      subst hg'
      refine ⟨fun _ _ => ⟨⟨g, cur, ty, fz, hglam, hgphi, ⟨h4, h5⟩, hxl, RepL.toS (G := G3) (hrows _), fun o => if_pos rfl, fun i sz ys v hci _ => ?_⟩, fun c hc => ?_⟩, fun h1 => by omega⟩
      · have := List.all_eq_true.1 hxs _ (List.mem_of_getElem? hci)
        cases this
      · have := List.all_eq_true.1 hxs c hc
        cases c <;> first | rfl | cases this
    · rw [if_neg hlt] at hg'
      exact c.box h.inv.lamL (h.inv.mem l t cs hg') (fun _ _ _ hf => hf)
  · rw [hmg] at hg'
    split at hg'
    · cases hg'
    · rename_i hne'
      show (if _ then _ else _) = _
      rw [if_neg hne']
      exact h.inv.lamBox l t (by rw [h.lvl]; simpa [hL] using hl) hg'
  · replace hl : (if l = L ∧ t = d then some (g, cur.size) else G.lam l t) = some p := hl
    split at hl
    · cases hl; exact hg1
    · have := h.inv.lamL l t p hl
      have := he.size
      omega
  · replace hb' : (if b = g then some (Own.box L d) else if b < w.heap.size then G.phi b else none) ≠ none := hb'
    have := he.size
    split at hb'
    · rename_i hbg; subst hbg; exact hg1
    · split at hb'
      · omega
      · exact absurd rfl hb'
  · have := h.inv.phiL b (by rw [h1]; simp)
    show (if b = g then _ else _) = _
    rw [if_neg (by rintro rfl; exact hg this), if_pos this]; exact h1
  · replace hb' : (if b = g then some (Own.box L d) else if b < w.heap.size then G.phi b else none) = some o := hb'
    split at hb'
    · cases hb'; trivial
    · split at hb'
      · exact h.fresh b o hb'
      · cases hb'

theorem call_run {o : Oper} {c : Call} {f : Nat} {x : Operand} {fs cs : Array Value} (hop : o.op = .call c) (hc : c.callee = .value x) (hx : a.eval x = .func (.func f) fs cs) (hcall : callable P f = true) :
    (execOp a.eval o).run P w = .ok (.enter f (fs ++ c.args.map a.eval ++ cs)) w := by
  unfold callable at hcall
  split at hcall
  · rename_i fn hfn
    simp only [Bool.and_eq_true, bne_iff_ne, ne_eq] at hcall
    unfold execOp
    rw [hop]
    simp only [resolve, hc, hx, Deferred.ofValue, Sem.run_bind, Sem.run_pure, Result.andThen_ok, invoke, callFunc, program, Sem.run]
    rw [hfn]
    have hn : (fn.name == "runtime.NumGoroutine") = false := by simpa using hcall.1
    have hb : fn.body.isNone = false := by cases hb : fn.body <;> simp_all
    simp only [hn, hb, Bool.false_eq_true, if_false, Sem.run_pure]
  · cases hcall

theorem toList_append_three {α : Type} (x y z : Array α) : (x ++ y ++ z).toList = x.toList ++ y.toList ++ z.toList := by simp


theorem setRow_eq {w : World} {g : Nat} {cur cells : Array Value} {e : TypeId} {fz : Nat × Nat} (hg : w.heap[g]? = some (.cells cur e fz)) : (w.setRow g cells).heap = w.heap.setIfInBounds g (.cells cells e fz) := by
  apply Array.ext_getElem?
  intro i
  by_cases hi : i = g
  · subst hi
    rw [setRow_heap w i cur cells e _ hg]
    have : i < w.heap.size := (Array.getElem?_eq_some_iff.1 hg).1
    simp [this]
  · rw [setRow_other w g i cells hi]
    simp [Ne.symm hi]

/-- A row kept by knowledge is there. -/
theorem row_there (hI : Inv G w s.mem) {b off : Nat} {vs : List Value} (hK : ∀ i u, vs[i]? = some u → G.K b (off + i) = some u) : ∀ j u, vs[j]? = some u → w.cell? ((⟨b, off, none⟩ : Addr).add j) = some u := by
  intro j u hu
  rw [addr_add]
  exact hI.kh _ _ _ (hK j u hu)

theorem append_run {t : TypeId} {c : Call} {o : Oper} {x y : Operand} (hop : o.op = .call c) (hc : c.callee = .builtin .append) (ha : c.args = #[x, y]) (hat : c.argTypes = #[t, t]) {cv : Value} {w' : World}
    (h : (Builtin.append_ #[t, t] o.type #[a.eval x, a.eval y]).run P w = .ok cv w') : (execOp a.eval o).run P w = .ok (.value cv) w' := by
  unfold execOp
  rw [hop]
  simp [resolve, hc, ha, hat, invoke, builtin, h]

theorem run_append_zero {t ty e : TypeId} {i : TypeInfo} (ht : P.underlying t = some (.slice e)) (hi : P.info? e = some i) {v y : Value} {n cap : Nat} {base : Option Addr} (hv : v = .slice base n cap) (hnc : n ≤ cap)
    (hy : (Builtin.lenOf y).run P w = .ok 0 w) (hf : (Builtin.firstCells i.size 0 y).run P w = .ok #[] w) : (Builtin.append_ #[t, t] ty #[v, y]).run P w = .ok v w := by
  subst hv
  cases base with
  | none => simp [Builtin.append_, run_underlying ht, sizeOf, typeInfo, hi, hy, hnc, hf]
  | some b => simp [Builtin.append_, run_underlying ht, sizeOf, typeInfo, hi, hy, hnc, hf, storeCells]


/-! ### Appends -/

theorem run_storeCells_any (g o : Nat) (t : TypeId) (fz : Nat × Nat) : ∀ (vs : List Value) (i : Nat) (cur : Array Value) (w : World), w.heap[g]? = some (.cells cur t fz) → noFz fz cur.size → o + i + vs.length ≤ cur.size → (∀ v ∈ vs, v.oneCell' = true) →
    (storeCells ⟨g, o, none⟩ vs i).run P w = .ok () (w.setRow g (cur.toList.take (o + i) ++ vs ++ cur.toList.drop (o + i + vs.length)).toArray)
  | [], i, cur, w, hg, _, _, _ => by
    simp only [storeCells, List.append_nil, List.length_nil, Nat.add_zero, List.take_append_drop, Array.toArray_toList]
    rw [setRow_self w g cur t fz hg]
    rfl
  | v :: rest, i, cur, w, hg, hfz, hl, h1 => by
    have hi : o + i < cur.size := by simp at hl; omega
    have hadd : (⟨g, o, none⟩ : Addr).add i = ⟨g, o + i, none⟩ := addr_add g o i
    have hcell : w.cell? ⟨g, o + i, none⟩ = some cur[o + i] := by simp [World.cell?, hg, hi]
    have hfro : w.frozen? ⟨g, o + i, none⟩ = false := by
      rcases hfz with rfl | hfz
      · simp [World.frozen?, hg]
      · obtain ⟨lo, hi'⟩ := fz
        simp only [World.frozen?, hg, Bool.and_eq_false_iff, decide_eq_false_iff_not]
        simp only at hfz
        omega
    have hst : (store ((⟨g, o, none⟩ : Addr).add i) v).run P w = .ok () (w.setRow g (cur.setIfInBounds (o + i) v)) := by
      rw [hadd, run_store P w _ v _ (h1 v (by simp)), hcell]
      simp [hfro, setCell_eq_setRow w g (o + i) cur t fz v hg]
    have ih := run_storeCells_any g o t fz rest (i + 1) (cur.setIfInBounds (o + i) v) (w.setRow g (cur.setIfInBounds (o + i) v)) (setRow_heap w g cur _ t _ hg) (by simpa using hfz) (by simp at hl ⊢; omega) (fun x hx => h1 x (by simp [hx]))
    simp only [storeCells, Sem.run_bind, hst, Result.andThen_ok, ih, setRow_setRow]
    congr 3
    have e := list_seg_step cur.toList (o + i) v rest (by simp at hl ⊢; omega)
    simpa [Array.toList_setIfInBounds, Nat.add_assoc] using e

/-- What is appended: so many cells, whatever stands for them. -/
structure Apps (P : Program) (w : World) (u : TypeId) (size n : Nat) (y : Value) (vs : List Value) : Prop where
  und : (∃ e', P.underlying u = some (.slice e')) ∨ P.underlying u = some .string
  len : ∀ w', (Builtin.lenOf y).run P w' = .ok n w'
  cells : ∀ w', w'.heap = w.heap → (Builtin.firstCells size n y).run P w' = .ok vs.toArray w'
  size : vs.length = n * size
  one : ∀ v ∈ vs, v.oneCell' = true

theorem run_app_zero {t u ty e : TypeId} {i : TypeInfo} {y : Value} (ht : P.underlying t = some (.slice e)) (hi : P.info? e = some i) {base : Option Addr} {len cap : Nat} (hlc : len ≤ cap) (hy : Apps P w u i.size 0 y []) :
    (Builtin.append_ #[t, u] ty #[.slice base len cap, y]).run P w = .ok (.slice base len cap) w := by
  have h1 := hy.len w
  have h2 := hy.cells w rfl
  rcases hy.und with ⟨e', hu⟩ | hu <;> cases base <;> simp [Builtin.append_, run_underlying ht, run_underlying hu, sizeOf, typeInfo, hi, h1, h2, hlc, storeCells]

theorem run_app_room {t u ty e : TypeId} {i : TypeInfo} {y : Value} {vs : List Value} {n : Nat} (ht : P.underlying t = some (.slice e)) (hi : P.info? e = some i) {g len cap : Nat} {cur : Array Value} {e1 : TypeId} {fz : Nat × Nat} (hg : w.heap[g]? = some (.cells cur e1 fz)) (hfz : noFz fz cur.size)
    (hroom : len + n ≤ cap) (hfit : len * i.size + vs.length ≤ cur.size) (hy : Apps P w u i.size n y vs) :
    (Builtin.append_ #[t, u] ty #[.slice (some ⟨g, 0, none⟩) len cap, y]).run P w =
      .ok (.slice (some ⟨g, 0, none⟩) (len + n) cap) (w.setRow g (cur.toList.take (len * i.size) ++ vs ++ cur.toList.drop (len * i.size + vs.length)).toArray) := by
  have h1 := hy.len w
  have h2 := hy.cells w rfl
  have hst := run_storeCells_any (P := P) g (len * i.size) e1 fz vs 0 cur w hg hfz (by simpa using hfit) hy.one
  simp only [Nat.add_zero] at hst
  rcases hy.und with ⟨e', hu⟩ | hu <;> simp [Builtin.append_, run_underlying ht, run_underlying hu, sizeOf, typeInfo, hi, h1, hroom, h2, Addr.add_lit, hst]

theorem run_app_grow {t u ty e : TypeId} {i : TypeInfo} {z : Value} {y : Value} {olds vs : List Value} {n : Nat} (ht : P.underlying t = some (.slice e)) (hi : P.info? e = some i) (hz : i.zero = some z) {base : Option Addr} {len cap : Nat}
    (ho : ∀ w', w'.heap = w.heap → (Builtin.firstCells i.size len (.slice base len cap)).run P w' = .ok olds.toArray w') (hg : cap < len + n) (h63 : len + n ≤ 9223372036854775807)
    (hfit : Builtin.nextslicecap (len + n) cap * i.bytes ≤ 281474976710656) (hy : Apps P w u i.size n y vs) :
    (Builtin.append_ #[t, u] ty #[.slice base len cap, y]).run P w =
      .ok (.slice (some ⟨w.heap.size, 0, none⟩) (len + n) (grownCap w (len + n) cap e)) (w.drew.alloc (.cells (olds.toArray ++ vs.toArray ++ Builtin.zeroCells z.cells (grownCap w (len + n) cap e - (len + n))) e)) := by
  have h1 := hy.len w
  have h1d := hy.len w.drew
  have h2 := hy.cells w.drew rfl
  have h3 := ho w.drew rfl
  have hn : ¬ (len + n ≤ cap) := by omega
  have h63' : ¬ (9223372036854775807 < ((len : Int) + (n : Int))) := by omega
  have h48' : ¬ (281474976710656 < Builtin.nextslicecap (len + n) cap * i.bytes) := by omega
  rcases hy.und with ⟨e', hu⟩ | hu <;>
    (simp [Builtin.append_, run_underlying ht, run_underlying hu, sizeOf, typeInfo, zeroValue, hi, hz, h1, hn, h63', h48', Question.forced, h2, h3, newRow, grownCap]; congr 2; apply Array.ext'; simp [List.append_assoc])

/-- Slot n has a row behind which there is no room; cells are appended, and slot d owns what comes out. -/
theorem app_full_sound {o : Oper} {c : Call} {x y : Operand} {t u e : TypeId} {i : TypeInfo} {z : Value} {sz bytes : Nat} (hop : o.op = .call c) (hc : c.callee = .builtin .append) (ha : c.args = #[x, y]) (hat : c.argTypes = #[t, u])
    (ht : P.underlying t = some (.slice e)) (hi : P.info? e = some i) (hsz : i.size = sz) (hby : i.bytes = bytes) (hz : i.zero = some z) (hzs : z.cells.size = sz)
    (h : FInv G0 w0 L N G a s w) {d n : Nat} (hd : d < N) {xs ys : List V} (hx : get s.env n = .full sz xs) (hyl0 : 0 < ys.length) (hxe : a.eval x = a.tmps.getD n Go.undef)
    {vs : List Value} (hy : Apps P w u i.size ys.length (a.eval y) vs) (hysz : ∀ q ∈ ys, q.cells.length = sz) (hyok : ∀ c ∈ flat ys, okc c = true) (hyr : RepL G.K vs (flat ys))
    (hb1 : (xs.length + ys.length) * bytes ≤ 140737488355328) (hb2 : xs.length + ys.length ≤ 140737488355328) (l : List AArg) (hl : .k n ∈ l) :
    ∃ G' cv w', (execOp a.eval o).run P w = .ok (.value cv) w' ∧ FInv G0 w0 L N G' (a.put (some d) cv) { s with env := putO (stripTakes s.env l) (some d) (.list sz (xs ++ ys) true) } w' := by
  have hxr := h.slots n
  rw [hx] at hxr
  have hxl := hxr.full_inv
  have run : ∀ {cv : Value} {w' : World}, (Builtin.append_ #[t, u] o.type #[a.eval x, a.eval y]).run P w = .ok cv w' → (execOp a.eval o).run P w = .ok (.value cv) w' := by
    intro cv w' hr
    unfold execOp
    rw [hop]
    simp [resolve, hc, ha, hat, invoke, builtin, hr]
  subst hsz hby
  have hvl := hy.size
  have hmax : (140737488355328 : Nat) ≤ maxLen := by unfold maxLen; omega
  by_cases hys : ys = []
  · subst hys; simp at hyl0
  · have hyl : 0 < ys.length := by cases ys with | nil => exact absurd rfl hys | cons _ _ => simp
    have hall0 : ∀ {vs2 : List Value}, (∀ q ∈ xs, q.cells.length = i.size) → (∀ c ∈ flat xs, okc c = true) → RepL G.K vs2 (flat xs) → (∀ q ∈ xs ++ ys, q.cells.length = i.size) ∧ (∀ c ∈ flat (xs ++ ys), okc c = true) ∧ RepL G.K (vs2 ++ vs) (flat (xs ++ ys)) := by
      intro vs2 h1 h2 h3
      refine ⟨fun q hq => (List.mem_append.1 hq).elim (h1 q) (hysz q), fun c hc' => ?_, by rw [flat_append]; exact h3.append hyr⟩
      rw [flat_append] at hc'
      exact (List.mem_append.1 hc').elim (h2 c) (hyok c)
    -- what grows is a new row
    have grow : ∀ (base : Option Addr) (cap : Nat) (vs2 : List Value), a.tmps.getD n Go.undef = .slice base xs.length cap → vs2.length = xs.length * i.size → (∀ w', w'.heap = w.heap → (Builtin.firstCells i.size xs.length (.slice base xs.length cap)).run P w' = .ok vs2.toArray w') → cap < xs.length + ys.length →
        (∀ q ∈ xs, q.cells.length = i.size) → (∀ c ∈ flat xs, okc c = true) → RepL G.K vs2 (flat xs) →
        ∃ G' cv w', (execOp a.eval o).run P w = .ok (.value cv) w' ∧ FInv G0 w0 L N G' (a.put (some d) cv) { s with env := putO (stripTakes s.env l) (some d) (.list i.size (xs ++ ys) true) } w' := by
      intro base cap vs2 hv hv2l ho hlt h1 h2 h3
      obtain ⟨hall, hokk, hrep⟩ := hall0 h1 h2 h3
      have hrr := run (by rw [hxe, hv]; exact run_app_grow ht hi hz ho hlt (by omega) (growslice_fits (by omega) hb1) hy)
      have h' := h.ready (w' := w.drew) rfl rfl rfl rfl
      have hge := grownCap_ge w (xs.length + ys.length) cap e
      obtain ⟨G', hG⟩ := h'.putRow (d := d) (sz := i.size) (cap := grownCap w (xs.length + ys.length) cap e) (cells := vs2.toArray ++ vs.toArray ++ Builtin.zeroCells z.cells (grownCap w (xs.length + ys.length) cap e - (xs.length + ys.length))) (e := e) (fz := (0, 0)) (xs := xs ++ ys) hd (.inl rfl)
        (by simp only [Array.size_append, List.size_toArray, size_zeroCells, hzs, hvl, hv2l]; rw [← Nat.add_mul, ← Nat.add_mul]; congr 1; omega) (by rw [List.length_append]; exact hge) (grownCap_le_maxLen w _ _ e (by omega)) hall hokk
        (by
          have : ((vs2.toArray ++ vs.toArray ++ Builtin.zeroCells z.cells (grownCap w (xs.length + ys.length) cap e - (xs.length + ys.length))).toList.take ((xs ++ ys).length * i.size)) = vs2 ++ vs := by
            simp only [Array.toList_append, List.length_append, Nat.add_mul]
            rw [List.take_left' (by simp [hv2l, hvl])]
          rw [this]; exact hrep) l
      rw [List.length_append] at hG
      exact ⟨G', _, _, hrr, hG⟩
    rcases hxl with ⟨rfl, hv⟩ | ⟨b, off, vs2, hv, q1, q2, q3, q4⟩
    · refine grow none 0 [] hv (by simp) (fun w' hw' => ?_) (by simpa using hyl) (by simp) (by simp [flat]) (by simp [flat]; exact .nil)
      simp [Builtin.firstCells, loadCells, loadCellsFrom]
    · have hv2l : vs2.length = xs.length * i.size := by rw [q4.length, flat_length q1]
      refine grow (some ⟨b, off, none⟩) xs.length vs2 hv hv2l (fun w' hw' => run_firstCells_some w' i.size xs.length _ _ _ vs2 hv2l (fun j u hu' => ?_)) (by omega) q1 q2 q4
      have := h.inv.kh _ _ _ (q3 j u hu')
      rw [addr_add]
      simpa [World.cell?, hw'] using this

/-- Slot n owns a row; cells are appended, and slot d owns what comes out. -/
theorem app_sound {o : Oper} {c : Call} {x y : Operand} {t u e : TypeId} {i : TypeInfo} {z : Value} {sz bytes : Nat} (hop : o.op = .call c) (hc : c.callee = .builtin .append) (ha : c.args = #[x, y]) (hat : c.argTypes = #[t, u])
    (ht : P.underlying t = some (.slice e)) (hi : P.info? e = some i) (hsz : i.size = sz) (hby : i.bytes = bytes) (hz : i.zero = some z) (hzs : z.cells.size = sz)
    (h : FInv G0 w0 L N G a s w) {d n : Nat} (hd : d < N) {xs ys : List V} (hx : get s.env n = .list sz xs true) (hxe : a.eval x = a.tmps.getD n Go.undef)
    {vs : List Value} (hy : Apps P w u i.size ys.length (a.eval y) vs) (hysz : ∀ q ∈ ys, q.cells.length = sz) (hyok : ∀ c ∈ flat ys, okc c = true) (hyr : RepL G.K vs (flat ys))
    (hb1 : (xs.length + ys.length) * bytes ≤ 140737488355328) (hb2 : xs.length + ys.length ≤ 140737488355328) (l : List AArg) (hl : .k n ∈ l) :
    ∃ G' cv w', (execOp a.eval o).run P w = .ok (.value cv) w' ∧ FInv G0 w0 L N G' (a.put (some d) cv) { s with env := putO (stripTakes s.env l) (some d) (.list sz (xs ++ ys) true) } w' := by
  have hxr := h.slots n
  rw [hx] at hxr
  have hown0 := h.own n
  rw [hx] at hown0
  have hown := hown0 0 sz xs rfl
  simp only [comp] at hown
  have hxl := hxr.list_inv
  have run : ∀ {cv : Value} {w' : World}, (Builtin.append_ #[t, u] o.type #[a.eval x, a.eval y]).run P w = .ok cv w' → (execOp a.eval o).run P w = .ok (.value cv) w' := by
    intro cv w' hr
    unfold execOp
    rw [hop]
    simp [resolve, hc, ha, hat, invoke, builtin, hr]
  subst hsz hby
  have hvl := hy.size
  have hmax : (140737488355328 : Nat) ≤ maxLen := by unfold maxLen; omega
  by_cases hys : ys = []
  · subst hys
    rw [List.append_nil]
    obtain ⟨base, cap, hv, hnc⟩ : ∃ base cap, a.tmps.getD n Go.undef = .slice base xs.length cap ∧ xs.length ≤ cap := by
      rcases hxl with ⟨rfl, base, cap, hv, _⟩ | ⟨b, off, cap, vs, hv, hc', _⟩
      · exact ⟨base, cap, by simpa using hv, by simp⟩
      · exact ⟨_, cap, hv, hc'⟩
    have hvs : vs = [] := List.eq_nil_of_length_eq_zero (by simpa using hvl)
    subst hvs
    have hr := run (by rw [hxe, hv]; exact run_app_zero ht hi hnc hy)
    rw [← hv] at hr
    exact ⟨_, _, _, hr, h.putMove hd hx l hl⟩
  · have hyl : 0 < ys.length := by cases ys with | nil => exact absurd rfl hys | cons _ _ => simp
    have hall0 : ∀ {vs2 : List Value}, (∀ q ∈ xs, q.cells.length = i.size) → (∀ c ∈ flat xs, okc c = true) → RepL G.K vs2 (flat xs) → (∀ q ∈ xs ++ ys, q.cells.length = i.size) ∧ (∀ c ∈ flat (xs ++ ys), okc c = true) ∧ RepL G.K (vs2 ++ vs) (flat (xs ++ ys)) := by
      intro vs2 h1 h2 h3
      refine ⟨fun q hq => (List.mem_append.1 hq).elim (h1 q) (hysz q), fun c hc' => ?_, by rw [flat_append]; exact h3.append hyr⟩
      rw [flat_append] at hc'
      exact (List.mem_append.1 hc').elim (h2 c) (hyok c)
    -- what grows is a new row
    have grow : ∀ (base : Option Addr) (cap : Nat) (vs2 : List Value), a.tmps.getD n Go.undef = .slice base xs.length cap → vs2.length = xs.length * i.size → (∀ w', w'.heap = w.heap → (Builtin.firstCells i.size xs.length (.slice base xs.length cap)).run P w' = .ok vs2.toArray w') → cap < xs.length + ys.length →
        (∀ q ∈ xs, q.cells.length = i.size) → (∀ c ∈ flat xs, okc c = true) → RepL G.K vs2 (flat xs) →
        ∃ G' cv w', (execOp a.eval o).run P w = .ok (.value cv) w' ∧ FInv G0 w0 L N G' (a.put (some d) cv) { s with env := putO (stripTakes s.env l) (some d) (.list i.size (xs ++ ys) true) } w' := by
      intro base cap vs2 hv hv2l ho hlt h1 h2 h3
      obtain ⟨hall, hokk, hrep⟩ := hall0 h1 h2 h3
      have hrr := run (by rw [hxe, hv]; exact run_app_grow ht hi hz ho hlt (by omega) (growslice_fits (by omega) hb1) hy)
      have h' := h.ready (w' := w.drew) rfl rfl rfl rfl
      have hge := grownCap_ge w (xs.length + ys.length) cap e
      obtain ⟨G', hG⟩ := h'.putRow (d := d) (sz := i.size) (cap := grownCap w (xs.length + ys.length) cap e) (cells := vs2.toArray ++ vs.toArray ++ Builtin.zeroCells z.cells (grownCap w (xs.length + ys.length) cap e - (xs.length + ys.length))) (e := e) (fz := (0, 0)) (xs := xs ++ ys) hd (.inl rfl)
        (by simp only [Array.size_append, List.size_toArray, size_zeroCells, hzs, hvl, hv2l]; rw [← Nat.add_mul, ← Nat.add_mul]; congr 1; omega) (by rw [List.length_append]; exact hge) (grownCap_le_maxLen w _ _ e (by omega)) hall hokk
        (by
          have : ((vs2.toArray ++ vs.toArray ++ Builtin.zeroCells z.cells (grownCap w (xs.length + ys.length) cap e - (xs.length + ys.length))).toList.take ((xs ++ ys).length * i.size)) = vs2 ++ vs := by
            simp only [Array.toList_append, List.length_append, Nat.add_mul]
            rw [List.take_left' (by simp [hv2l, hvl])]
          rw [this]; exact hrep) l
      rw [List.length_append] at hG
      exact ⟨G', _, _, hrr, hG⟩
    rcases hown with ⟨rfl, base, hxv⟩ | ⟨g, cap', cur, e', fz, hxv0, hphi, hheap, hfz, hcs, hle, hcm, hKn⟩
    · -- nothing was there
      refine grow base 0 [] (by simpa using hxv) (by simp) (fun w' hw' => ?_) (by simpa using hyl) (by simp) (by simp [flat]) (by simp [flat]; exact .nil)
      cases base <;> simp [Builtin.firstCells, loadCells, loadCellsFrom]
    · have hxv : a.tmps.getD n Go.undef = .slice (some ⟨g, 0, none⟩) xs.length cap' := by
        rcases hxv0 with h1 | ⟨h1, _⟩
        · exact h1
        · exfalso
          rcases hxl with ⟨_, base, cap, h2, _⟩ | ⟨b, off, cap, vs, h2, _⟩ <;> rw [h1] at h2 <;> cases h2
      rcases (show (∃ b2 off2 cap2 vs2, a.tmps.getD n Go.undef = .slice (some ⟨b2, off2, none⟩) xs.length cap2 ∧ xs.length ≤ cap2 ∧ (∀ x ∈ xs, x.cells.length = i.size) ∧ (∀ c ∈ flat xs, okc c = true) ∧ (∀ j u, vs2[j]? = some u → G.K b2 (off2 + j) = some u) ∧ RepL G.K vs2 (flat xs)) from by
        rcases hxl with ⟨rfl, _⟩ | hh
        · exact ⟨g, 0, cap', [], by simpa using hxv, by simp, by simp, by simp [flat], by simp, by simp [flat]; exact .nil⟩
        · exact hh) with ⟨b2, off2, cap2, vs2, hxv2, _, hxsz, hxok, hxK, hxrr⟩
      rw [hxv] at hxv2
      simp only [Value.slice.injEq, Option.some.injEq, Addr.mk.injEq, true_and] at hxv2
      obtain ⟨⟨rfl, rfl, _⟩, rfl⟩ := hxv2
      have hv2l : vs2.length = xs.length * i.size := by rw [hxrr.length, flat_length hxsz]
      by_cases hroom : xs.length + ys.length ≤ cap'
      · -- there is room
        have hfit : xs.length * i.size + vs.length ≤ cur.size := by rw [hvl, hcs, ← Nat.add_mul]; exact Nat.mul_le_mul_right _ hroom
        have hrr := run (by rw [hxe, hxv]; exact run_app_room ht hi hheap hfz hroom hfit hy)
        obtain ⟨hall, hokk, hrep⟩ := hall0 hxsz hxok hxrr
        have htake : cur.toList.take (xs.length * i.size) = vs2 := by
          apply List.ext_getElem?
          intro q
          rw [List.getElem?_take]
          split
          · rename_i hq
            have hq' : q < vs2.length := by omega
            have h2 := h.inv.kh _ _ _ (hxK q _ (List.getElem?_eq_getElem hq'))
            rw [cell_of_heap hheap, Nat.zero_add] at h2
            rw [List.getElem?_eq_getElem hq', ← h2]
            simp
          · rename_i hq
            rw [List.getElem?_eq_none (by omega)]
        have hcells : (cur.toList.take (xs.length * i.size) ++ vs ++ cur.toList.drop (xs.length * i.size + vs.length)).toArray.size = cur.size := by
          simp only [List.size_toArray, List.length_append, List.length_take, List.length_drop, Array.length_toList]; omega
        obtain ⟨G', hG⟩ := h.putGrow (d := d) (ys := ys) (cells := (cur.toList.take (xs.length * i.size) ++ vs ++ cur.toList.drop (xs.length * i.size + vs.length)).toArray)
          (sw := w.setRow g (cur.toList.take (xs.length * i.size) ++ vs ++ cur.toList.drop (xs.length * i.size + vs.length)).toArray) (fz0 := fz) (fz := fz) hd (by rw [hcells]; exact hfz) hx hphi hheap hKn (setRow_eq hheap) rfl rfl rfl
          (by rw [hcells]; exact hcs) (by rw [List.length_append]; exact hroom) hcm
          (by
            rw [List.append_assoc, List.take_append_of_le_length (by rw [List.length_take]; simp; omega)]
            rw [List.take_take, Nat.min_self]) hall hokk
          (by
            have e1 : ((cur.toList.take (xs.length * i.size) ++ vs ++ cur.toList.drop (xs.length * i.size + vs.length)).toArray.toList.take ((xs ++ ys).length * i.size)) = vs2 ++ vs := by
              rw [htake]
              simp only [List.length_append, Nat.add_mul]
              rw [List.take_left' (by simp [hv2l, hvl])]
            rw [e1]; exact hrep) l hl
        rw [List.length_append] at hG
        exact ⟨G', _, _, hrr, hG⟩
      · refine grow _ cap' vs2 hxv hv2l (fun w' hw' => ?_) (by omega) hxsz hxok hxrr
        refine run_firstCells_some w' i.size xs.length _ _ _ vs2 hv2l (fun j u hu => ?_)
        have := h.inv.kh _ _ _ (hxK j u hu)
        rw [addr_add]
        simpa [World.cell?, hw'] using this
theorem run_buildSlice' {t e : TypeId} {len : Nat} {parts : Array (Nat × Value)} {cells : Array Value} {ie : TypeInfo} {z : Value}
    (hu : P.underlying t = some (.slice e)) (hie : P.info? e = some ie) (hz : ie.zero = some z) (hsmall : ¬ len * ie.size > 2 ^ 24)
    (h : Instr.fill (fun i => some (i * ie.size, ie.size)) ((Array.range (len * ie.size)).map (z.cells[· % z.cells.size]!)) parts.toList = some cells) :
    (Instr.buildSlice t len parts).run P w = .ok (.slice (some ⟨w.heap.size, 0, none⟩) len len) (w.alloc (.cells cells e)) := by
  by_cases hpos : len * ie.size = 0
  · rw [hpos] at h
    have e0 : ∀ f : Nat → Value, (Array.range 0).map f = #[] := fun f => by simp
    rw [e0] at h
    simp [Instr.buildSlice, run_underlying hu, sizeOf, typeInfo, hie, hpos, e0, h, newRow]
  · exact run_buildSlice w t e len parts cells ie z hu hie hz hsmall hpos h

theorem bslice_sound {o : Oper} {t e : TypeId} {len : Nat} {parts : Array (Nat × Operand)} {i : TypeInfo} {z : Value} {sz n : Nat} {zero : List V} {ps : List (Nat × Nat)} {args : List AArg} {r : V} (hop : o.op = .buildSlice t len parts)
    (ht : P.underlying t = some (.slice e)) (hi : P.info? e = some i) (hsz : i.size = sz) (hpos : 0 < sz) (hln : len = n) (hsm : n * sz ≤ 16777216) (hz : i.zero = some z)
    (hzr : repCs ((Array.range (len * i.size)).map (z.cells[· % z.cells.size]!)).toList zero = true) (hzl : zero.length = n * sz) (hps : (parts.toList.map fun p => (p.1 * sz, sz)) = ps)
    (h : FInv G0 w0 L N G a s w) {d : Nat} (hd : d < N) (ha : okArgs (parts.toList.map (·.2)) args = true) (hr : rBslice sz n zero ps (args.map (readArg s.env)) = some r) (l : List AArg) :
    ∃ G' cv w', (execOp a.eval o).run P w = .ok (.value cv) w' ∧ FInv G0 w0 L N G' (a.put (some d) cv) { s with env := putO (stripTakes s.env l) (some d) r } w' ∧ ∃ b, cv = .slice (some ⟨b, 0, none⟩) n n := by
  subst hsz hln
  unfold rBslice at hr
  split at hr
  · rename_i hdat
    obtain ⟨cs, hf, hr⟩ := Option.map_eq_some_iff.1 hr
    subst hr
    obtain ⟨hz1, hz2⟩ := repCs_sound (K := G.K) hzr
    have hargs := h.reads ha
    obtain ⟨cells, h1, h2, h3, h4⟩ := fill_rep (G := G) (fun j => some (j * i.size, i.size)) (parts.map fun (j, x) => (j, a.eval x)).toList ps (args.map (readArg s.env)) _ zero cs
      (by rw [Array.toList_map, List.map_map, ← hps, List.map_map]; rfl) (by rw [Array.toList_map, List.map_map]; rw [List.map_map] at hargs; exact hargs) hdat hz1 hz2 hf
    have hcl : cs.length = len * i.size := by rw [h4, hzl]
    have hcz : cells.size = len * i.size := by have := h2.length; simp only [Array.length_toList] at this; omega
    obtain ⟨hfl, hel⟩ := chunk_flat hpos len cs hcl h3
    have hrun : (execOp a.eval o).run P w = .ok (.value (.slice (some ⟨w.heap.size, 0, none⟩) len len)) (w.alloc (.cells cells e)) := by
      unfold execOp
      rw [hop]
      exact vrun (run_buildSlice' ht hi hz (by omega) h1)
    obtain ⟨G', hG⟩ := h.putRow (d := d) (sz := i.size) (cap := len) (cells := cells) (e := e) (fz := (0, 0)) (xs := chunk i.size len cs) hd (.inl rfl) hcz (by rw [chunk_length]; exact Nat.le_refl _)
      (by unfold maxLen; have := Nat.le_mul_of_pos_right len hpos; omega) hel (by rw [hfl]; exact h3)
      (by rw [chunk_length, hfl, List.take_of_length_le (by simp; omega)]; exact h2) l
    rw [chunk_length] at hG
    exact ⟨G', _, _, hrun, hG, _, rfl⟩
  · cases hr

/-- A row that is owned, and fills its block, is given up: it is known for good, and full. -/
theorem FInv.toFull {s1 : St} {a1 : Act} (h : FInv G0 w0 L N G a1 s1 w) {d b sz n : Nat} {xs : List V} {E : Env} (h1 : get s1.env d = .list sz xs true) (h2 : a1.tmps.getD d Go.undef = .slice (some ⟨b, 0, none⟩) n n) (hn : xs.length = n)
    (hE : ∀ t, t ≠ d → get E t = get s1.env t) (hd : get E d = .full sz xs) : FInv G0 w0 L N G a1 { s1 with env := E } w := by
  refine ⟨h.inv, h.lvl, h.two, h.size, h.defers, fun t => ?_, fun t => ?_, h.ext, h.fresh0, h.fresh⟩
  · by_cases ht : t = d
    · subst ht
      have hs := h.slots t
      rw [h1] at hs
      rw [h2] at hs ⊢
      rw [hd]
      cases hs with
      | data r =>
        subst hn
        rcases r.list_inv with ⟨rfl, base, cap, hv, hc⟩ | ⟨b', off, cap, vs, hv, hc, a2, a3, a4, a5⟩
        · simp only [Value.slice.injEq, List.length_nil] at hv
          exact .data (.full b 0 sz [] [] (by simp) (by simp [flat]) (by simp) (by simp [flat]; exact .nil))
        · simp only [Value.slice.injEq, Option.some.injEq, Addr.mk.injEq, true_and] at hv
          obtain ⟨⟨rfl, rfl, _⟩, rfl⟩ := hv
          exact .data (.full b 0 sz xs vs a2 a3 a4 a5)
    · show SRep G _ (get E t)
      rw [hE t ht]; exact h.slots t
  · by_cases ht : t = d
    · subst ht
      show Claims G w _ _ (get E t)
      rw [hd]
      exact Claims.none (fun i => by cases i <;> rfl)
    · show Claims G w _ _ (get E t)
      rw [hE t ht]; exact h.own t

theorem bslicef_sound {o : Oper} {t e : TypeId} {len : Nat} {parts : Array (Nat × Operand)} {i : TypeInfo} {z : Value} {sz n : Nat} {zero : List V} {ps : List (Nat × Nat)} {args : List AArg} {r : V} (hop : o.op = .buildSlice t len parts)
    (ht : P.underlying t = some (.slice e)) (hi : P.info? e = some i) (hsz : i.size = sz) (hpos : 0 < sz) (hln : len = n) (hsm : n * sz ≤ 16777216) (hz : i.zero = some z)
    (hzr : repCs ((Array.range (len * i.size)).map (z.cells[· % z.cells.size]!)).toList zero = true) (hzl : zero.length = n * sz) (hps : (parts.toList.map fun p => (p.1 * sz, sz)) = ps)
    (h : FInv G0 w0 L N G a s w) {d : Nat} (hd : d < N) (ha : okArgs (parts.toList.map (·.2)) args = true) (hr : rBslicef sz n zero ps (args.map (readArg s.env)) = some r) (l : List AArg) :
    ∃ G' cv w', (execOp a.eval o).run P w = .ok (.value cv) w' ∧ FInv G0 w0 L N G' (a.put (some d) cv) { s with env := putO (stripTakes s.env l) (some d) r } w' := by
  unfold rBslicef at hr
  split at hr
  · rename_i hdat
    obtain ⟨cs, hf, hr⟩ := Option.map_eq_some_iff.1 hr
    subst hr
    have hr2 : rBslice sz n zero ps (args.map (readArg s.env)) = some (.list sz (chunk sz n cs) true) := by
      unfold rBslice; rw [if_pos hdat, hf]; rfl
    obtain ⟨G', cv, w', h1, h2, b, rfl⟩ := bslice_sound hop ht hi hsz hpos hln hsm hz hzr hzl hps h hd ha hr2 l
    refine ⟨G', _, w', h1, ?_⟩
    refine h2.toFull (d := d) (b := b) (sz := sz) (n := n) (xs := chunk sz n cs) (by simp [putO, get_put]) ?_ (chunk_length _ _ _) (fun t ht => ?_) (by simp [putO, get_put])
    · have hN := h.size
      simp [Act.put, hN, hd]
    · simp [putO, get_put, ht]
  · cases hr

theorem dataCell_one {v : Value} {c : V} {l : Nat} (hs : SRep G v c) (h : dataCell l c = true) : v.oneCell' = true := by
  refine one_of hs ?_
  cases c <;> simp [dataCell, V.isOneCell] at h ⊢

theorem dataCells_one {l : Nat} : ∀ {vs : List Value} {xs : List V}, SRepL G vs xs → (∀ c ∈ xs, dataCell l c = true) → ∀ u ∈ vs, u.oneCell' = true
  | _, _, .nil, _, u, hu => by cases hu
  | _, _, .cons r rs, h, u, hu => by
    rcases List.mem_cons.1 hu with rfl | hu
    · exact dataCell_one r (h _ (by simp))
    · exact dataCells_one rs (fun c hc => h c (by simp [hc])) u hu

/-- A value's cells, as what it stands for has them. -/
theorem cells_rep {v : Value} {x : V} {l : Nat} (h : SRep G v x) (hx : x.cells.all (dataCell l) = true) : SRepL G v.cells.toList x.cells := by
  cases x with
  | agg cs =>
    obtain ⟨vs, rfl, _, hr⟩ := h.agg_inv
    simpa [Value.cells, V.cells] using hr.toS
  | sagg cs =>
    obtain ⟨vs, rfl, _, hr⟩ := h.sagg_inv
    simpa [Value.cells, V.cells] using hr
  | _ =>
    have h1 := dataCell_one (l := l) h (by simpa [V.cells] using hx)
    rw [oneCell_cells h1]
    exact .cons h .nil

theorem newCell_data {l : Nat} {cs : List V} (h : cs.all (newCell l) = true) : cs.all (dataCell l) = true := by
  rw [List.all_eq_true] at h ⊢
  intro c hc
  have := h c hc
  simp only [newCell, Bool.and_eq_true] at this
  exact this.1

/-- A cell of a struct is never owned. -/
theorem cells_own {v : Value} {x : V} {l : Nat} (h : SRep G v x) (hd : x.cells.all (dataCell l) = true) : (∀ c ∈ x.cells, c.isOwn = false) ∨ ∃ sz xs, x = .list sz xs true := by
  cases x with
  | agg cs =>
    obtain ⟨_, _, hok, _⟩ := h.agg_inv
    refine .inl fun c hc => ?_
    have := hok c (by simpa [V.cells] using hc)
    simp only [okc, Bool.and_eq_true, Bool.not_eq_true'] at this
    exact this.2
  | sagg cs =>
    obtain ⟨_, _, hok, _⟩ := h.sagg_inv
    refine .inl fun c hc => ?_
    have := hok c (by simpa [V.cells] using hc)
    simp only [sCell, Bool.and_eq_true, Bool.not_eq_true'] at this
    exact this.2
  | fptr n => simp [V.cells, dataCell] at hd
  | list sz xs o =>
    cases o with
    | true => exact .inr ⟨sz, xs, rfl⟩
    | false => exact .inl fun c hc => by simp [V.cells] at hc; subst hc; rfl
  | _ => exact .inl fun c hc => by simp [V.cells] at hc; subst hc; rfl

theorem repC_list {v : Value} {sz : Nat} {xs : List V} {o : Bool} (h : repC v (.list sz xs o) = true) : v = .slice none 0 0 ∧ xs = [] := by
  cases v <;> simp [repC] at h
  rename_i b n c
  cases b <;> cases xs <;> simp at h ⊢
  exact h

/-- An owned operand: a slot that is taken, or the constant nil. -/
theorem owned_arg {x : Operand} {ar : AArg} (hk : okArg x ar = true) {sz : Nat} {xs : List V} (hx : readArg s.env ar = .list sz xs true) :
    (∃ n, ar = .k n ∧ get s.env n = .list sz xs true ∧ a.eval x = a.tmps.getD n Go.undef) ∨ (xs = [] ∧ a.eval x = .slice none 0 0) := by
  unfold okArg at hk
  split at hk
  · exact absurd hx (strip_own _ _ _)
  · simp at hk; subst hk
    exact .inl ⟨_, rfl, hx, rfl⟩
  · simp [readArg] at hx
  · simp only [readArg] at hx
    subst hx
    obtain ⟨h1, h2⟩ := repC_list hk
    exact .inr ⟨h2, h1⟩
  · simp [readArg] at hx
  · cases hk

theorem okArg_k {x : Operand} {n : Nat} (h : okArg x (.k n) = true) : x = .tmp n := by
  cases x <;> simp [okArg] at h
  subst h; rfl

theorem okArgs_one {x : Operand} {args : List AArg} (h : okArgs [x] args = true) : ∃ ar, args = [ar] ∧ okArg x ar = true := by
  match args, h with
  | [ar], h => exact ⟨ar, rfl, by simpa [okArgs] using h⟩
  | [], h => simp [okArgs] at h
  | _ :: _ :: _, h => simp [okArgs] at h

theorem okArgs_two {x y : Operand} {args : List AArg} (h : okArgs [x, y] args = true) : ∃ ar br, args = [ar, br] ∧ okArg x ar = true ∧ okArg y br = true := by
  match args, h with
  | [ar, br], h => exact ⟨ar, br, rfl, by simpa [okArgs] using h⟩
  | [], h => simp [okArgs] at h
  | [_], h => simp [okArgs] at h
  | _ :: _ :: _ :: _, h => simp [okArgs] at h

theorem store_sound {o : Oper} {t : TypeId} {x y : Operand} {i : TypeInfo} {n : Nat} {args : List AArg} {r : V} {m : Mem} {d : Option Nat} (hop : o.op = .store t x y) (hi : P.info? t = some i) (hn : i.size = n) (hn0 : n ≠ 0)
    (h : FInv G0 w0 L N G a s w) (ha : okArgs [x, y] args = true) (hr : rStore n d (args.map (readArg s.env)) s.mem = some (r, m)) :
    ∃ w', (execOp a.eval o).run P w = .ok .skip w' ∧ d = none ∧ ∃ G', FInv G0 w0 L N G' (a.put none Go.undef) { env := putO (stripTakes s.env args) none r, mem := m } w' := by
  obtain ⟨ar, br, rfl, ka, kb⟩ := okArgs_two ha
  unfold rStore at hr
  split at hr
  · rename_i l k off xv he
    simp only [List.map_cons, List.map_nil, List.cons.injEq, and_true] at he
    obtain ⟨he1, he2⟩ := he
    have hp := okArg_sound h.slots ka
    have hv := okArg_sound h.slots kb
    rw [he1] at hp
    rw [he2] at hv
    obtain ⟨b, nn, ⟨hlt, hl1, hlam⟩, hpe⟩ := hp.ptr_inv
    obtain ⟨cs, hm, hr⟩ := bind_some_iff.1 hr
    split at hr
    · rename_i hh
      obtain ⟨h1, h2, h3⟩ := hh
      injection hr with hr
      injection hr with hr1 hr2
      subst hr1 hr2
      have hne : cs ≠ [] := by intro h0; subst h0; simp at h2; omega
      obtain ⟨⟨b', cur, e, fz, c1, c2, c3, c4, c5, c6, c7⟩, c8⟩ := (h.inv.mem l k cs hm).1 hl1 hne
      rw [hlam] at c1
      cases c1
      have hcr := cells_rep hv h3
      have hcl := hcr.length
      simp only [Array.length_toList] at hcl
      have hdc : ∀ c ∈ xv.cells, dataCell l c = true := by simpa using h3
      have h1c := dataCells_one hcr hdc
      have hst := run_storeCells_any (P := P) b off e fz (a.eval y).cells.toList 0 cur w c3.1 c3.2 (by simp; omega) h1c
      simp only [Nat.add_zero] at hst
      have hsz : (sizeOf t).run P w = .ok n w := by simp [sizeOf, run_info hi, hn]
      have hrun : (execOp a.eval o).run P w = .ok .skip (w.setRow b (cur.toList.take off ++ (a.eval y).cells.toList ++ cur.toList.drop (off + (a.eval y).cells.toList.length)).toArray) := by
        unfold execOp
        rw [hop]
        simp only [Instr.storeAt, hpe, Instr.sureAddr, Sem.run_bind, Sem.run_pure, Result.andThen_ok, storeVar, hsz]
        rw [if_neg (by rw [hcl, h1]; simp)]
        simp only [Result.andThen_ok, hst]
      refine ⟨_, hrun, rfl, ?_⟩
      have hcase : (∀ (i sz : Nat) (xs : List V) (u : Value), xv.cells[i]? = some (.list sz xs true) → (a.eval y).cells.toList[i]? = some u → xs = [] ∧ ∃ base, u = .slice base 0 0) ∨ ∃ n sz xs, xv.cells = [.list sz xs true] ∧ get s.env n = .list sz xs true ∧ (a.eval y).cells.toList = [a.tmps.getD n Go.undef] ∧ .k n ∈ [ar, br] := by
        rcases cells_own hv h3 with h0 | ⟨sz, xs, rfl⟩
        · refine .inl fun i sz xs u hc _ => ?_
          have := h0 _ (List.mem_of_getElem? hc)
          simp [V.isOwn] at this
        · rcases owned_arg (a := a) kb he2 with ⟨n', rfl, e1, e2⟩ | ⟨rfl, e2⟩
          · refine .inr ⟨n', sz, xs, rfl, e1, ?_, by simp⟩
            rw [← e2, oneCell_cells (one_of hv rfl)]
          · refine .inl fun i sz' xs' u hc hu => ?_
            have e3 : (a.eval y).cells.toList = [.slice none 0 0] := by rw [e2]; rfl
            rw [e3] at hu
            cases i with
            | zero =>
              simp only [V.cells, List.getElem?_cons_zero, Option.some.injEq] at hc hu
              cases hc; subst hu
              exact ⟨rfl, none, rfl⟩
            | succ i => simp [V.cells] at hc
      exact h.putStore hl1 hm hlam c2 c3 c4 c5 c6 c7 c8 (by omega) hcr hdc (setRow_eq c3.1) rfl rfl rfl hcase Go.undef .undef
    · cases hr
  · cases hr

theorem newBox_sound {o : Oper} {v : Value} {e : TypeId} {cs : List V} {r : V} {m : Mem} {d : Option Nat} (hrun : (execOp a.eval o).run P w = .ok (.value (.pointer (some ⟨w.heap.size, 0, none⟩))) (w.alloc (.cells v.cells e)))
    (h : FInv G0 w0 L N G a s w) (hN : ∀ t, d = some t → t < N) (hrep : (∀ l, cs.all (dataCell l) = true → SRepL G v.cells.toList cs)) (hr : newBox cs d s.mem = some (r, m)) (l : List AArg) :
    ∃ G' cv w', (execOp a.eval o).run P w = .ok (.value cv) w' ∧ FInv G0 w0 L N G' (a.put d cv) { env := putO (stripTakes s.env l) d r, mem := m } w' := by
  unfold newBox at hr
  split at hr
  · rename_i d b m' hmem
    split at hr
    · rename_i hb
      split at hr
      · rename_i hall
        injection hr with hr
        injection hr with hr1 hr2
        subst hr1 hr2
        have hL : m'.length = L := by have := h.lvl; rw [hmem] at this; simpa using this
        obtain ⟨G', hG⟩ := h.putBox (d := d) (cells := v.cells) (e := e) (cs := cs) (b0 := b) (m := m') (hN d rfl) hmem hb (hrep _ (newCell_data hall)) (by rw [← hL]; exact hall) l
        exact ⟨G', _, _, hrun, hG⟩
      · cases hr
    · cases hr
  · cases hr

/-- A new box of level 0. -/
theorem newAt_sound {o : Oper} {v : Value} {e : TypeId} {cs : List V} {r : V} {m : Mem} {d : Option Nat} (hrun : (execOp a.eval o).run P w = .ok (.value (.pointer (some ⟨w.heap.size, 0, none⟩))) (w.alloc (.cells v.cells e)))
    (h : FInv G0 w0 L N G a s w) (hN : ∀ t, d = some t → t < N) (hrep : (∀ l, cs.all (dataCell l) = true → SRepL G v.cells.toList cs)) (hr : newAt 0 cs s.mem = some (r, m)) (l : List AArg) :
    ∃ G' cv w', (execOp a.eval o).run P w = .ok (.value cv) w' ∧ FInv G0 w0 L N G' (a.put d cv) { env := putO (stripTakes s.env l) d r, mem := m } w' := by
  unfold newAt at hr
  split at hr
  · rename_i hall
    obtain ⟨⟨k, m'⟩, h1, h2⟩ := Option.map_eq_some_iff.1 hr
    injection h2 with e1 e2
    subst e1 e2
    obtain ⟨g1, g2, g3, g4⟩ := mnew_spec h1
    have hrep' := hrep 0 (newCell_data hall)
    have hlen := hrep'.length
    simp only [Array.length_toList] at hlen
    obtain ⟨G', hG⟩ := h.putNew (l0 := 0) (k := k) (n := v.cells.size) (O := .cells v.cells e) (cs := cs.map ownE) (m' := m') g4 g2 g1 g3 (fun G' hG hlam hphi hK => by
        refine cells_new (by omega) hlam hphi hK (by omega) ?_ hall
        rw [List.take_of_length_le (by simp; omega)]
        exact hrep'.mono hG) (d := d) hN (cv := .pointer (some ⟨w.heap.size, 0, none⟩)) (r := .ptr 0 k 0) (fun G' hG hlv hlam => .ptr 0 k 0 _ _ (by rw [hlv]; exact g1) (by omega) hlam) (noc_sound rfl) l
    exact ⟨G', _, _, hrun, hG⟩
  · cases hr

theorem mkmap_sound {o : Oper} {t : TypeId} {kd : Option IntKind} {xs : List V} {r : V} {m : Mem} {d : Option Nat} (hop : o.op = .makeMap t none) (h : FInv G0 w0 L N G a s w) (hN : ∀ t, d = some t → t < N) (hr : rMkmap kd xs s.mem = some (r, m)) (l : List AArg) :
    ∃ G' cv w', (execOp a.eval o).run P w = .ok (.value cv) w' ∧ FInv G0 w0 L N G' (a.put d cv) { env := putO (stripTakes s.env l) d r, mem := m } w' := by
  unfold rMkmap at hr
  split at hr
  · obtain ⟨⟨k, m'⟩, h1, h2⟩ := Option.map_eq_some_iff.1 hr
    injection h2 with e1 e2
    subst e1 e2
    obtain ⟨g1, g2, g3, g4⟩ := mnew_spec h1
    have hrun : (execOp a.eval o).run P w = .ok (.value (.map (some w.heap.size))) (w.alloc (.map #[] 0)) := by
      unfold execOp
      rw [hop]
      exact vrun (by simp [Instr.makeMap])
    obtain ⟨G', hG⟩ := h.putNew (l0 := 1) (k := k) (n := 0) (O := .map #[] 0) (cs := [.mapv kd [] []]) (m' := m') g4 g2 g1 g3 (fun G' hG hlam hphi hK =>
        ⟨fun h1 => absurd rfl h1, fun _ => ⟨⟨w.heap.size, 0, hlam, hphi, hK, by rw [heap_alloc_new]; exact .inl ⟨kd, [], [], #[], rfl, rfl, by simp, .nil, .nil, by simp, by simp⟩⟩⟩⟩)
      (d := d) hN (cv := .map (some w.heap.size)) (r := .mref k) (fun G' hG hlv hlam => .mref k _ _ (by rw [hlv]; exact g1) hlam) (noc_sound rfl) l
    exact ⟨G', _, _, hrun, hG⟩
  · cases hr

/-! ### Maps -/

def kdDesc : Option IntKind → TypeDesc
  | none => .string
  | some i => .int i

theorem key_desc {P : Program} {k : TypeId} {kd : Option IntKind} (h : undIs P k (keyD kd) = true) : P.underlying k = some (kdDesc kd) := by
  obtain ⟨d, h1, h2⟩ := undIs_ex h
  rw [h1]
  cases kd <;> cases d <;> simp [keyD, kdDesc] at h2 ⊢
  exact h2.symm

theorem same_key {K : Know} {kd : Option IntKind} {u v : Value} {x y : V} (hu : Rep K u x) (hv : Rep K v y) (hx : isKey kd x = true) (hy : isKey kd y = true) :
    Instr.sameNow (kdDesc kd) u v = some (keyEq x y) := by
  cases kd with
  | none =>
    cases x <;> simp [isKey] at hx
    cases y <;> simp [isKey] at hy
    cases hu; cases hv
    rename_i a b
    simp only [kdDesc, Instr.sameNow, keyEq, Option.some.injEq]
    rw [Bool.eq_iff_iff, MapKept.bytes_beq]
    simp
  | some k =>
    cases x <;> simp [isKey] at hx
    cases y <;> simp [isKey] at hy
    cases hu; cases hv
    subst hx hy
    simp [kdDesc, Instr.sameNow, keyEq]

theorem find_rep {K : Know} {kd : Option IntKind} {u : Value} {x : V} (hu : Rep K u x) (hx : isKey kd x = true) : ∀ (es : List MapEntry) (i : Nat) (ks vs : List V), RepL K (es.map (·.key)) ks → RepL K (es.map (·.val)) vs → (∀ k ∈ ks, isKey kd k = true) →
    (findK ks vs x = none ∧ Instr.findNow (kdDesc kd) u es i = some none ∧ setK ks vs x = fun y => (ks ++ [x], vs ++ [y])) ∨
    ∃ j e y, es[j]? = some e ∧ vs[j]? = some y ∧ findK ks vs x = some y ∧ Instr.findNow (kdDesc kd) u es i = some (some (i + j, e.val)) ∧ Rep K e.val y ∧ (∃ k, ks[j]? = some k ∧ Rep K e.key k ∧ keyEq x k = true) ∧ setK ks vs x = fun y => (ks, vs.set j y)
  | [], i, ks, vs, h1, h2, _ => by
    cases h1; cases h2
    exact .inl ⟨rfl, rfl, rfl⟩
  | e :: es, i, ks, vs, h1, h2, hk => by
    cases h1 with | cons hkk h1 =>
    cases h2 with | cons hvv h2 =>
    rename_i k ks v vs
    have hs := same_key hu hkk hx (hk k (by simp))
    simp only [Instr.findNow, hs]
    cases hb : keyEq x k with
    | true =>
      exact .inr ⟨0, e, v, rfl, rfl, by simp [findK, hb], by simp, hvv, ⟨k, rfl, hkk, hb⟩, by funext y; simp [setK, hb]⟩
    | false =>
      rcases find_rep hu hx es (i + 1) ks vs h1 h2 (fun q hq => hk q (by simp [hq])) with ⟨f1, f2, f3⟩ | ⟨j, e', y, f1, f2, f3, f4, f5, ⟨k', f6, f7, f8⟩, f9⟩
      · exact .inl ⟨by simp [findK, hb, f1], f2, by funext y; simp [setK, hb, f3]⟩
      · exact .inr ⟨j + 1, e', y, by simpa using f1, by simpa using f2, by simp [findK, hb, f3], by rw [f4, show i + (j + 1) = i + 1 + j by omega], f5, ⟨k', by simpa using f6, f7, f8⟩, by funext y; simp [setK, hb, f9]⟩

theorem run_checkKey' {k : TypeId} {kd : Option IntKind} {u : Value} {x : V} {K : Know} (hk : P.underlying k = some (kdDesc kd)) (hu : Rep K u x) (hx : isKey kd x = true) (b : Bool) : (Instr.checkKey b 10000 k u).run P w = .ok () w := by
  refine MapKept.run_checkKey hk ?_ b 9999
  cases kd with
  | none =>
    cases x <;> simp [isKey] at hx
    cases hu
    simp [MapKept.IsKey, kdDesc]
  | some i =>
    cases x <;> simp [isKey] at hx
    cases hu
    simp [MapKept.IsKey, kdDesc, hx]

theorem repV_rep {K : Know} {z : Value} {x : V} (h : repV z x = true) : Rep K z x ∧ noClaim x := by
  unfold repV at h
  split at h
  · rename_i cs xs
    obtain ⟨h1, h2⟩ := repCs_sound (K := K) h
    exact ⟨by simpa using Rep.agg cs.toList xs h2 h1, noc_sound rfl⟩
  · cases h
  · cases h
  · simp only [Bool.and_eq_true] at h
    refine ⟨repC_sound h.1, noClaim_of (okc_own h.2) (fun vs hv => ?_) (fun n hv => ?_)⟩ <;> subst hv
    · simp [okc, V.isOneCell] at h
    · simp [okc, isLocal] at h

theorem mget_sound {o : Oper} {t k e : TypeId} {x y : Operand} {kd : Option IntKind} {ok : Bool} {zero r : V} {args : List AArg} (hop : o.op = .lookup t x y ok) (ht : P.underlying t = some (.map k e)) (hk : undIs P k (keyD kd) = true) (hz : zeroV P e zero = true)
    (h : FInv G0 w0 L N G a s w) (ha : okArgs [x, y] args = true) (hr : rMget kd ok zero (args.map (readArg s.env)) s.mem = some r) :
    ∃ cv, (execOp a.eval o).run P w = .ok (.value cv) w ∧ SRep G cv r ∧ noClaim r := by
  have hkd := key_desc hk
  have hargs := h.reads ha
  unfold zeroV at hz
  split at hz
  case h_2 => cases hz
  rename_i it hit
  split at hz
  case h_2 => cases hz
  rename_i z hzz
  obtain ⟨hzr, hzn⟩ := repV_rep (K := G.K) hz
  have hzv : (zeroValue e).run P w = .ok z w := by simp [zeroValue, run_info hit, hzz]
  unfold rMget at hr
  split at hr
  · rename_i t' xv he
    rw [he] at hargs
    simp only [List.map_cons, List.map_nil] at hargs
    obtain ⟨_, _, hh, hp, hv⟩ := hargs.two
    cases hh
    obtain ⟨b, n, hlam, hpe⟩ := hp.mref_inv
    obtain ⟨cs, hm, hr2⟩ := bind_some_iff.1 hr
    clear hr
    split at hr2
    · rename_i kd' ks vs
      cases hc : (decide (kd' = kd) && isKey kd xv) with
      | false => rw [hc] at hr2; cases hr2
      | true =>
      rw [hc] at hr2
      simp only [cond_true, Option.some.injEq] at hr2
      simp only [Bool.and_eq_true, decide_eq_true_eq] at hc
      obtain ⟨rfl, hkx⟩ := hc
      obtain ⟨b', n', c1, c2, c3, c4⟩ := ((h.inv.mem 1 t' _ hm).2 rfl).ex
      rw [hlam] at c1
      cases c1
      rcases c4 with c4 | ⟨_, _, e1, _⟩
      rotate_left
      · cases e1
      obtain ⟨kd2, ks2, vs2, es, e1, e2, e3, e4, e5, e6, e7⟩ := c4
      cases e1
      have hxl : isLocal xv = false := by cases kd' <;> cases xv <;> simp [isKey] at hkx <;> rfl
      have hxr := hv.toRep hxl
      have hobj : (getObj b).run P w = .ok (.map es es.size) w := MapKept.run_getObj_map e2
      have hck := run_checkKey' (P := P) (w := w) hkd hxr hkx es.isEmpty
      have run : ∀ (f : Option (Nat × Value)), Instr.findNow (kdDesc kd') (a.eval y) es.toList 0 = some f →
          (execOp a.eval o).run P w = .ok (.value (match f with | some (_, v) => if ok then .tuple #[v, .bool true] else v | none => if ok then .tuple #[z, .bool false] else z)) w := by
        intro f hf
        have hfk := MapKept.run_findKey (P := P) (w := w) hkd hf
        unfold execOp
        rw [hop]
        refine vrun ?_
        rw [hpe]
        simp only [Instr.lookup, Sem.run_bind, run_und ht, Result.andThen_ok, hobj, Sem.run_pure, hck, hfk]
        cases f with
        | none => simp only [Sem.run_bind, hzv, Result.andThen_ok, Sem.run_pure]
        | some p => rfl
      rcases find_rep hxr hkx es.toList 0 ks vs e4 e5 e6 with ⟨f1, f2, _⟩ | ⟨j, e', y', f1, f2, f3, f4, f5, _, _⟩
      · refine ⟨_, run _ f2, ?_⟩
        rw [f1] at hr2
        subst hr2
        dsimp only
        cases ok with
        | true =>
          refine ⟨SRep.tup [z, .bool false] _ (.cons (.data hzr) (.cons (.data (.bool _)) .nil)), fun i => ?_⟩
          rcases i with _ | _ | _ | i
          · rfl
          · have := hzn 0
            cases hzero : zero <;> simp [hzero, mapAns, claim] at this ⊢
            rename_i o'
            cases o' <;> simp [claim] at this ⊢
          · rfl
          · simp [mapAns, claim]
        | false => exact ⟨.data hzr, hzn⟩
      · refine ⟨_, run _ f4, ?_⟩
        rw [f3] at hr2
        subst hr2
        dsimp only
        have hdy := e7 y' (List.mem_of_getElem? f2)
        have hyn : noClaim y' := by
          cases y' <;> first | exact noc_sound rfl | (simp [data, okc, V.isOneCell, isLocal] at hdy; done) | skip
          rename_i sz xs ow
          cases ow
          · exact noc_sound rfl
          · simp [data, okc, V.isOwn] at hdy
        cases ok with
        | true =>
          refine ⟨SRep.tup [e'.val, .bool true] _ (.cons (.data f5) (.cons (.data (.bool _)) .nil)), fun i => ?_⟩
          rcases i with _ | _ | _ | i
          · rfl
          · have := hyn 0
            cases hzero : y' <;> simp [hzero, mapAns, claim] at this ⊢
            rename_i o'
            cases o' <;> simp [claim] at this ⊢
          · rfl
          · simp [mapAns, claim]
        | false => exact ⟨.data f5, hyn⟩
    · cases hr2
  · cases hr

theorem modify_eq {es : Array MapEntry} {j : Nat} {e : MapEntry} (f : MapEntry → MapEntry) (he : es[j]? = some e) (i : Nat) : (es.modify j f)[i]? = if i = j then some (f e) else es[i]? := by
  rw [Array.getElem?_modify]
  by_cases h : j = i
  · subst h; simp [he]
  · simp [h, Ne.symm h]

theorem repL_of {K : Know} : ∀ {vs : List Value} {xs : List V}, vs.length = xs.length → (∀ (i : Nat) (v : Value) (x : V), vs[i]? = some v → xs[i]? = some x → Rep K v x) → RepL K vs xs
  | [], [], _, _ => .nil
  | v :: vs, x :: xs, hl, h => .cons (h 0 v x rfl rfl) (repL_of (by simpa using hl) (fun i u y hu hy => h (i + 1) u y (by simpa using hu) (by simpa using hy)))
  | [], _ :: _, hl, _ => by simp at hl
  | _ :: _, [], hl, _ => by simp at hl

theorem RepL.at {K : Know} {vs : List Value} {xs : List V} (h : RepL K vs xs) {i : Nat} {v : Value} {x : V} (hv : vs[i]? = some v) (hx : xs[i]? = some x) : Rep K v x := by
  obtain ⟨u, hu, hr⟩ := h.get hx
  rw [hv] at hu; cases hu; exact hr

theorem data_rep1 {v : Value} {x : V} (h : SRep G v x) (hx : data x = true) : Rep G.K v x := by
  cases x with
  | agg cs =>
    cases h with
    | data r => exact r
  | _ => exact h.toRep (okc_local hx)

theorem mset_sound {o : Oper} {t k e : TypeId} {x y z : Operand} {kd : Option IntKind} {r : V} {m : Mem} {args : List AArg} (hop : o.op = .mapUpdate t x y z ∨ o.op = .insert t x y z) (ht : P.underlying t = some (.map k e)) (hk : undIs P k (keyD kd) = true)
    (h : FInv G0 w0 L N G a s w) (ha : okArgs [x, y, z] args = true) (hr : rMset kd (args.map (readArg s.env)) s.mem = some (r, m)) :
    ∃ w', (execOp a.eval o).run P w = .ok .skip w' ∧ FInv G0 w0 L N G (a.put none Go.undef) { env := putO (stripTakes s.env args) none r, mem := m } w' := by
  have hkd := key_desc hk
  have hargs := h.reads ha
  unfold rMset at hr
  split at hr
  · rename_i t' xv yv he
    rw [he] at hargs
    simp only [List.map_cons, List.map_nil] at hargs
    cases hargs with | cons hp hargs => cases hargs with | cons hx hargs => cases hargs with | cons hy _ =>
    obtain ⟨b, n, hlam, hpe⟩ := hp.mref_inv
    obtain ⟨cs, hm, hr2⟩ := bind_some_iff.1 hr
    clear hr
    split at hr2
    · rename_i kd' ks vs
      split at hr2
      · rename_i hc
        obtain ⟨rfl, hkx, hdy⟩ := hc
        injection hr2 with hr2
        injection hr2 with e1 e2
        subst e1 e2
        obtain ⟨b', n', c1, c2, c3, c4⟩ := ((h.inv.mem 1 t' _ hm).2 rfl).ex
        rw [hlam] at c1
        cases c1
        rcases c4 with c4 | ⟨_, _, e1, _⟩
        rotate_left
        · cases e1
        obtain ⟨kd2, ks2, vs2, es, e1, e2, e3, e4, e5, e6, e7⟩ := c4
        cases e1
        have hxl : isLocal xv = false := by cases kd' <;> cases xv <;> simp [isKey] at hkx <;> rfl
        have hxr := hx.toRep hxl
        have hyr := data_rep1 hy hdy
        have hobj : (getObj b).run P w = .ok (.map es es.size) w := MapKept.run_getObj_map e2
        have hck := run_checkKey' (P := P) (w := w) hkd hxr hkx false
        have hkl := e4.length
        have hvl := e5.length
        simp only [List.length_map, Array.length_toList] at hkl hvl
        have fin : ∀ (O : Obj) (cs' : List V), (execOp a.eval o).run P w = .ok .skip { w with heap := w.heap.setIfInBounds b O } → ObjIs G (some O) cs' →
            (fun p : List V × List V => V.mapv kd' p.1 p.2) (setK ks vs xv yv) = cs'.headD .junk → cs'.length = 1 →
            ∃ w', (execOp a.eval o).run P w = .ok .skip w' ∧ FInv G0 w0 L N G (a.put none Go.undef) { env := putO (stripTakes s.env args) none .undef, mem := mput s.mem 1 t' [(fun p : List V × List V => V.mapv kd' p.1 p.2) (setK ks vs xv yv)] } w' := by
          intro O cs' h1 h2 h3 h4
          refine ⟨_, h1, ?_⟩
          have : [(fun p : List V × List V => V.mapv kd' p.1 p.2) (setK ks vs xv yv)] = cs' := by
            rw [h3]
            match cs', h4 with
            | [c], _ => rfl
          rw [this]
          exact h.putObj (sw := { w with heap := w.heap.setIfInBounds b O }) hm hlam c2 c3 h2 rfl rfl rfl rfl (d := none) (by simp) (cv := Go.undef) (r := .undef) (by simp) (noc_sound rfl) args
        have run : ∀ (f : Option (Nat × Value)) (O : Obj), Instr.findNow (kdDesc kd') (a.eval y) es.toList 0 = some f →
            (match f with | some (i, _) => O = .map (es.modify i fun e => { e with key := a.eval y, val := a.eval z }) es.size ∧ ∀ e, es[i]? = some e → e.key = a.eval y | none => O = .map (es.push { key := a.eval y, val := a.eval z, born := es.size }) (es.size + 1)) →
            (execOp a.eval o).run P w = .ok .skip { w with heap := w.heap.setIfInBounds b O } := by
          intro f O hf hO
          have hfk := MapKept.run_findKey (P := P) (w := w) hkd hf
          have core : (Instr.mapUpdate t (a.eval x) (a.eval y) (a.eval z)).run P w = .ok () { w with heap := w.heap.setIfInBounds b O } := by
            rw [hpe]
            simp only [Instr.mapUpdate, Sem.run_bind, run_und ht, Result.andThen_ok, hobj, hck, hfk]
            cases f with
            | none =>
              simp only at hO
              subst hO
              simp only [MapKept.run_setObj_map _ e2]
            | some p =>
              obtain ⟨i, v⟩ := p
              obtain ⟨rfl, hO2⟩ := hO
              have hsame : Instr.sameBits 10000 (((es[i]?).map (·.key)).getD (a.eval y)) (a.eval y) = true := by
                have e0 : ((es[i]?).map (·.key)).getD (a.eval y) = a.eval y := by
                  cases hei : es[i]? with
                  | none => rfl
                  | some e => simp [hO2 e hei]
                rw [e0]
                cases kd' with
                | none =>
                  cases xv <;> simp [isKey] at hkx
                  generalize a.eval y = u at hxr
                  cases hxr
                  simp only [Instr.sameBits]
                  rw [MapKept.bytes_beq]
                | some i' =>
                  cases xv <;> simp [isKey] at hkx
                  generalize a.eval y = u at hxr
                  cases hxr
                  simp [Instr.sameBits]
              simp only [Instr.keyThatStays, hsame, if_true, Sem.run_bind, Sem.run_pure, Result.andThen_ok, MapKept.run_setObj_map _ e2]
          unfold execOp
          rcases hop with hop | hop <;> rw [hop] <;> simp only [Sem.run_bind, core, Result.andThen_ok, Sem.run_pure]
        rcases find_rep hxr hkx es.toList 0 ks vs e4 e5 e6 with ⟨f1, f2, f3⟩ | ⟨j, e', y', f1, f2, f3, f4, f5, ⟨k', f6, f7, f8⟩, f9⟩
        · refine fin _ [.mapv kd' (ks ++ [xv]) (vs ++ [yv])] (run _ _ f2 rfl) (.inl ⟨kd', _, _, es.push { key := a.eval y, val := a.eval z, born := es.size }, rfl, by rw [Array.size_push], fun i e hi => ?_, ?_, ?_, ?_, ?_⟩) (by rw [f3]; rfl) rfl
          · rw [Array.getElem?_push] at hi
            split at hi
            · rename_i h1; cases hi; exact h1.symm
            · exact e3 i e hi
          · simp only [Array.toList_push, List.map_append, List.map_cons, List.map_nil]
            exact e4.append (.cons hxr .nil)
          · simp only [Array.toList_push, List.map_append, List.map_cons, List.map_nil]
            exact e5.append (.cons hyr .nil)
          · intro q hq
            rcases List.mem_append.1 hq with hq | hq
            · exact e6 q hq
            · simp at hq; subst hq; exact hkx
          · intro q hq
            rcases List.mem_append.1 hq with hq | hq
            · exact e7 q hq
            · simp at hq; subst hq; exact hdy
        · rw [Nat.zero_add] at f4
          have f1' : es[j]? = some e' := by simpa using f1
          have hkeyj : ∀ e, es[j]? = some e → e.key = a.eval y := by
            intro e he
            rw [f1'] at he; cases he
            have hk'k := e6 k' (List.mem_of_getElem? f6)
            cases kd' with
            | none =>
              cases xv <;> simp [isKey] at hkx
              cases k' <;> simp [isKey] at hk'k
              simp only [keyEq, beq_iff_eq] at f8
              subst f8
              generalize a.eval y = u at hxr
              generalize e'.key = u' at f7
              cases hxr; cases f7; rfl
            | some i' =>
              cases xv <;> simp [isKey] at hkx
              cases k' <;> simp [isKey] at hk'k
              simp only [keyEq, Bool.and_eq_true, decide_eq_true_eq, beq_iff_eq] at f8
              obtain ⟨rfl, rfl⟩ := f8
              generalize a.eval y = u at hxr
              generalize e'.key = u' at f7
              cases hxr; cases f7; rfl
          refine fin _ [.mapv kd' ks (vs.set j yv)] (run _ _ f4 ⟨rfl, hkeyj⟩) (.inl ⟨kd', _, _, es.modify j (fun e => { e with key := a.eval y, val := a.eval z }), rfl, by rw [Array.size_modify], fun i e hi => ?_, ?_, ?_, e6, ?_⟩) (by rw [f9]; rfl) rfl
          · rw [modify_eq _ f1'] at hi
            split at hi
            · rename_i h1; cases hi; exact h1 ▸ e3 j e' f1'
            · exact e3 i e hi
          · refine repL_of (by simp [hkl]) (fun i u q hu hq => ?_)
            rw [List.getElem?_map, Array.getElem?_toList, modify_eq _ f1'] at hu
            split at hu
            · rename_i h1
              subst h1
              simp only [Option.map_some, Option.some.injEq] at hu
              subst hu
              rw [f6] at hq; cases hq
              rw [← hkeyj e' f1']; exact f7
            · exact e4.at (by rw [List.getElem?_map, Array.getElem?_toList]; exact hu) hq
          · refine repL_of (by simp [hvl]) (fun i u q hu hq => ?_)
            rw [List.getElem?_map, Array.getElem?_toList, modify_eq _ f1'] at hu
            rw [List.getElem?_set] at hq
            by_cases h1 : i = j
            · subst h1
              simp only [if_true, Option.map_some, Option.some.injEq] at hu hq
              subst hu
              split at hq
              · cases hq; exact hyr
              · cases hq
            · rw [if_neg h1] at hu
              rw [if_neg (Ne.symm h1)] at hq
              exact e5.at (by rw [List.getElem?_map, Array.getElem?_toList]; exact hu) hq
          · intro q hq
            rcases List.mem_or_eq_of_mem_set hq with hq | rfl
            · exact e7 q hq
            · exact hdy
      · cases hr2
    · cases hr2
  · cases hr

/-! ### What is taken out of boxes and tuples; rows that are made -/

theorem loadk_sound {o : Oper} {t : TypeId} {x : Operand} {args : List AArg} {r : V} {m : Mem} {d : Option Nat} (hop : o.op = .load t x) (hv : varIs P t none = true) (h : FInv G0 w0 L N G a s w) (hN : ∀ t, d = some t → t < N) (ha : okArgs [x] args = true)
    (hr : rLoadk (args.map (readArg s.env)) s.mem = some (r, m)) :
    ∃ G' cv w', (execOp a.eval o).run P w = .ok (.value cv) w' ∧ FInv G0 w0 L N G' (a.put d cv) { env := putO (stripTakes s.env args) d r, mem := m } w' := by
  obtain ⟨j, dd, c1, c2, c3⟩ := varD hv
  have hargs := h.reads ha
  unfold rLoadk at hr
  split at hr
  · rename_i l k off he
    rw [he] at hargs
    obtain ⟨_, hh, hp⟩ := SRepL.one hargs
    simp only [List.map_cons, List.map_nil, List.cons.injEq, and_true] at hh
    subst hh
    obtain ⟨b, nn, ⟨hlt, hl1, hlam⟩, hpe⟩ := hp.ptr_inv
    obtain ⟨cs, hm, hr2⟩ := bind_some_iff.1 hr
    obtain ⟨v, hcv, hr3⟩ := Option.map_eq_some_iff.1 hr2
    injection hr3 with e1 e2
    subst e1 e2
    have hne : cs ≠ [] := by intro h0; subst h0; simp at hcv
    obtain ⟨⟨b', cur, e, fz, q1, q2, q3, q4, q5, q6, q7⟩, q8⟩ := (h.inv.mem l k cs hm).1 hl1 hne
    rw [hlam] at q1
    cases q1
    have hlt' : off < cs.length := (List.getElem?_eq_some_iff.1 hcv).1
    obtain ⟨cv, hcur⟩ : ∃ cv, cur[off]? = some cv := ⟨cur[off], Array.getElem?_eq_getElem (by omega)⟩
    have hrun : (execOp a.eval o).run P w = .ok (.value cv) w := by
      unfold execOp
      rw [hop]
      refine vrun ?_
      have hag : (isAgg t).run P w = .ok false w := isAgg_no c2 c3
      have hcell : w.cell? ⟨b, off, none⟩ = some cv := by rw [cell_of_heap q3.1]; exact hcur
      simp only [Instr.loadAt, hpe, Instr.sureAddr, Sem.run_bind, Sem.run_pure, Result.andThen_ok, loadVar, hag, Bool.false_eq_true, if_false, run_load, hcell]
    obtain ⟨G', hG⟩ := h.putTake hl1 hm hlam q2 q3 q4 q5 q6 q7 q8 hcv hcur hN args
    exact ⟨G', _, _, hrun, hG⟩
  · cases hr

theorem extk_sound {o : Oper} {x : Operand} {i : Nat} {args : List AArg} {r : V} {d : Option Nat} (hop : o.op = .extract x i) (hK : isK args = true) (h : FInv G0 w0 L N G a s w) (hN : ∀ t, d = some t → t < N) (ha : okArgs [x] args = true)
    (hr : rExtk i (args.map (readArg s.env)) = some r) :
    ∃ G' cv w', (execOp a.eval o).run P w = .ok (.value cv) w' ∧ FInv G0 w0 L N G' (a.put d cv) { s with env := putO (stripTakes s.env args) d r } w' := by
  obtain ⟨ar, rfl, ka⟩ := okArgs_one ha
  have hargs := h.reads ha
  obtain ⟨n, rfl⟩ : ∃ n, ar = .k n := by cases ar <;> simp [isK] at hK; exact ⟨_, rfl⟩
  obtain ⟨us, hus, vs, hvs, hvr, hnt, cv, hcv, hrun, hrep⟩ := s_extk (P := P) (w := w) (by simpa using hargs) hr
  have hxe : a.eval x = a.tmps.getD n Go.undef := by
    unfold okArg at ka
    split at ka <;> first | (rename_i heq; cases heq) | cases ka
    simp at ka; subst ka; rfl
  have hgn : get s.env n = .tup vs := by simpa [readArg] using hvs
  have hrun' : (execOp a.eval o).run P w = .ok (.value cv) w := by
    unfold execOp
    rw [hop]
    exact vrun hrun
  by_cases ho : ∃ sz xs, r = .list sz xs true
  · obtain ⟨sz, xs, rfl⟩ := ho
    obtain ⟨G', hG⟩ := h.putExt hN hgn hvr (by rw [← hxe]; exact hus) hcv hrep [.k n] (by simp)
    exact ⟨G', _, _, hrun', hG⟩
  · exact ⟨G, _, _, hrun', h.putPure hN hrep (noClaim_of (fun sz xs hh => ho ⟨sz, xs, hh⟩) hnt.1 hnt.2) [.k n]⟩

theorem isByteT_info {e : TypeId} (h : isByteT P e = true) : ∃ i, P.info? e = some i ∧ i.size = 1 ∧ i.bytes = 1 ∧ i.zero = some (.int .u8 0) := by
  simp only [isByteT, Bool.and_eq_true] at h
  obtain ⟨_, h⟩ := h
  split at h
  · rename_i i hi
    simp only [Bool.and_eq_true, beq_iff_eq] at h
    obtain ⟨⟨h1, h2⟩, h3⟩ := h
    refine ⟨i, hi, h1, h2, ?_⟩
    split at h3
    · assumption
    · cases h3
  · cases h

theorem bytes_flat : ∀ (s : List UInt8), flat (s.map byteV) = s.map byteV
  | [] => rfl
  | b :: s => by simp only [List.map_cons, flat, bytes_flat s]; rfl

theorem bytes_rep {K : Know} : ∀ (s : List UInt8), RepL K (s.map fun b => Value.int .u8 b.toNat) (s.map byteV)
  | [] => .nil
  | b :: s => .cons (.int _ _) (bytes_rep s)

theorem bytes_ok (s : List UInt8) : (∀ q ∈ s.map byteV, q.cells.length = 1) ∧ ∀ c ∈ flat (s.map byteV), okc c = true := by
  rw [bytes_flat]
  constructor <;> (intro q hq; obtain ⟨b, _, rfl⟩ := List.mem_map.1 hq; rfl)

/-- []byte(s) -/
theorem s2b_sound {o : Oper} {t u e : TypeId} {x : Operand} {args : List AArg} {r : V} (hop : o.op = .convert t u x) (ht : P.underlying t = some .string) (hu : P.underlying u = some (.slice e)) (he : isByteT P e = true)
    (h : FInv G0 w0 L N G a s w) {d : Nat} (hd : d < N) (ha : okArgs [x] args = true) (hr : rS2b (args.map (readArg s.env)) = some r) :
    ∃ G' cv w', (execOp a.eval o).run P w = .ok (.value cv) w' ∧ FInv G0 w0 L N G' (a.put (some d) cv) { s with env := putO (stripTakes s.env args) (some d) r } w' := by
  have hargs := h.reads ha
  unfold rS2b at hr
  split at hr
  · rename_i bs heq
    rw [heq] at hargs
    split at hr
    · rename_i hlen
      injection hr with hr; subst hr
      obtain ⟨_, hh, hp⟩ := SRepL.one hargs
      simp only [List.map_cons, List.map_nil, List.cons.injEq, and_true] at hh
      subst hh
      have hxe := hp.str_inv
      have hrun : (execOp a.eval o).run P w = .ok (.value (.slice (some ⟨w.heap.size, 0, none⟩) bs.length (grownCap w bs.length 0 e)))
          (w.drew.alloc (.cells (bytesRow ⟨bs.toArray⟩ (grownCap w bs.length 0 e)) e ((bytesRow ⟨bs.toArray⟩ (grownCap w bs.length 0 e)).size, (bytesRow ⟨bs.toArray⟩ (grownCap w bs.length 0 e)).size + 1))) := by
        unfold execOp
        rw [hop]
        refine vrun ?_
        rw [hxe]
        have := run_bytes_of_string (P := P) w t u e ⟨bs.toArray⟩ ht hu (isByteT_und he)
        rw [sizeL] at this
        exact this
      have h' := h.ready (w' := w.drew) rfl rfl rfl rfl
      have hge := grownCap_ge w bs.length 0 e
      have hrow : (bytesRow ⟨bs.toArray⟩ (grownCap w bs.length 0 e)).toList = (bs.map fun b => Value.int .u8 b.toNat) ++ List.replicate (grownCap w bs.length 0 e - bs.length) (.int .u8 0) := by
        simp [bytesRow, sizeL]
      have hrs : (bytesRow ⟨bs.toArray⟩ (grownCap w bs.length 0 e)).size = grownCap w bs.length 0 e := by
        rw [← Array.length_toList, hrow]; simp; omega
      obtain ⟨b1, b2⟩ := bytes_ok bs
      obtain ⟨G', hG⟩ := h'.putRow (d := d) (sz := 1) (cap := grownCap w bs.length 0 e) (cells := bytesRow ⟨bs.toArray⟩ (grownCap w bs.length 0 e)) (e := e) (fz := ((bytesRow ⟨bs.toArray⟩ (grownCap w bs.length 0 e)).size, (bytesRow ⟨bs.toArray⟩ (grownCap w bs.length 0 e)).size + 1))
        (xs := bs.map byteV) hd (.inr (Nat.le_refl _)) (by rw [hrs]; simp) (by simpa using hge) (grownCap_le_maxLen w _ _ e (by unfold maxLen; omega)) b1 b2
        (by
          rw [hrow, bytes_flat]
          simp only [List.length_map, Nat.mul_one]
          rw [List.take_left' (by simp)]
          exact bytes_rep bs) args
      rw [List.length_map] at hG
      exact ⟨G', _, _, hrun, hG⟩
    · cases hr
  · cases hr

theorem cvb_sound {o : Oper} {t e : TypeId} {x : Operand} {args : List AArg} {r : V} (hop : o.op = .convert t t x) (ht : P.underlying t = some (.slice e)) (he : isByteT P e = true) (hK : isK args = true)
    (h : FInv G0 w0 L N G a s w) {d : Nat} (hd : d < N) (hk : okArgs [x] args = true) (hr : rCvb (args.map (readArg s.env)) = some r) :
    ∃ G' cv w', (execOp a.eval o).run P w = .ok (.value cv) w' ∧ FInv G0 w0 L N G' (a.put (some d) cv) { s with env := putO (stripTakes s.env args) (some d) r } w' := by
  obtain ⟨ar, rfl, ka⟩ := okArgs_one hk
  obtain ⟨n, rfl⟩ : ∃ n, ar = .k n := by cases ar <;> simp [isK] at hK; exact ⟨_, rfl⟩
  have hxe : a.eval x = a.tmps.getD n Go.undef := by rw [okArg_k ka]; rfl
  unfold rCvb at hr
  split at hr
  · rename_i y ys heq
    injection hr with hr; subst hr
    simp only [List.map_cons, List.map_nil, readArg, List.cons.injEq, and_true] at heq
    have hown0 := h.own n
    rw [heq] at hown0
    have hsl := h.slots n
    rw [heq] at hsl
    rcases hown0 0 1 (y :: ys) rfl with ⟨h0, _⟩ | ⟨g, cap, cur, e', fz, h10, h2, h3, h4, h5, h6, h7, h8⟩
    · cases h0
    · have h1 : a.tmps.getD n Go.undef = .slice (some ⟨g, 0, none⟩) (y :: ys).length cap := by
        rcases h10 with h1 | ⟨_, h1, _⟩
        · exact h1
        · cases h1
      let fz' : Nat × Nat := if fz.1 == fz.2 then (cur.size, cur.size + 1) else (min fz.1 cur.size, max fz.2 (cur.size + 1))
      have hfz' : noFz fz' cur.size := by
        refine .inr ?_
        show cur.size ≤ (if fz.1 == fz.2 then (cur.size, cur.size + 1) else (min fz.1 cur.size, max fz.2 (cur.size + 1))).1
        split
        · exact Nat.le_refl _
        · rename_i hne
          rcases h4 with rfl | h4
          · simp at hne
          · simp only; omega
      have hshape : w.shape? g = some (e', cur.size) := by simp [World.shape?, h3]
      have hlt := heap_lt h3
      have hfreeze : (w.freeze ⟨g, cur.size, none⟩ 1).heap = w.heap.setIfInBounds g (.cells cur e' fz') := by
        unfold World.freeze
        rw [if_neg (by decide)]
        apply Array.ext_getElem?
        intro i
        show (w.heap.modify g _)[i]? = _
        rw [Array.getElem?_modify, Array.getElem?_setIfInBounds]
        by_cases hi : g = i
        · subst hi
          obtain ⟨lo, hi'⟩ := fz
          have h3' := (Array.getElem?_eq_some_iff.1 h3).2
          simp [h3', hlt, fz']
        · simp [hi]
      have hrun : (execOp a.eval o).run P w = .ok (.value (a.tmps.getD n Go.undef)) (w.freeze ⟨g, cur.size, none⟩ 1) := by
        unfold execOp
        rw [hop]
        refine vrun ?_
        rw [hxe, h1]
        simp only [convert, Sem.run_bind, run_und ht, Result.andThen_ok, run_und (isByteT_und he), beq_self_eq_true, markStringish, Sem.run_pure]
        simp [shape, Sem.run, hshape, freeze]
      have hos : (w.freeze ⟨g, cur.size, none⟩ 1).os = w.os ∧ (w.freeze ⟨g, cur.size, none⟩ 1).tape = w.tape ∧ (w.freeze ⟨g, cur.size, none⟩ 1).output = w.output := by
        unfold World.freeze
        rw [if_neg (by decide)]
        exact ⟨rfl, rfl, rfl⟩
      rcases hsl.list_inv with ⟨h0, _⟩ | ⟨b2, off2, cap2, vs, q1, q2, q3, q4, q5, q6⟩
      · cases h0
      · rw [h1] at q1
        simp only [Value.slice.injEq, Option.some.injEq, Addr.mk.injEq, true_and] at q1
        obtain ⟨⟨rfl, rfl, _⟩, rfl⟩ := q1
        have hvl : vs.length = (y :: ys).length * 1 := by rw [q6.length, flat_length q3]
        have htake : cur.toList.take ((y :: ys).length * 1) = vs := by
          apply List.ext_getElem?
          intro q
          rw [List.getElem?_take]
          split
          · rename_i hq
            have hq' : q < vs.length := by omega
            have e2 := h.inv.kh _ _ _ (q5 q _ (List.getElem?_eq_getElem hq'))
            rw [cell_of_heap h3, Nat.zero_add] at e2
            rw [List.getElem?_eq_getElem hq', ← e2]
            simp
          · rename_i hq
            rw [List.getElem?_eq_none (by omega)]
        obtain ⟨G', hG⟩ := h.putGrow (d := d) (ys := []) (cells := cur) (sw := w.freeze ⟨g, cur.size, none⟩ 1) (fz0 := fz) (fz := fz') hd hfz' heq h2 h3 h8 hfreeze hos.1 hos.2.1 hos.2.2
          h5 (by simpa using h6) h7 rfl (by simpa using q3) (by simpa using q4) (by rw [List.append_nil, htake]; exact q6) [.k n] (by simp)
        rw [List.append_nil] at hG
        rw [h1] at hrun
        exact ⟨G', _, _, hrun, hG⟩
  · cases hr

theorem lsl0_sound {o : Oper} {t e : TypeId} {i : TypeInfo} {x y z : Operand} {sz : Nat} {args : List AArg} {r : V} (hop : o.op = .slice t x none (some y) (some z)) (ht : P.underlying t = some (.slice e)) (hi : P.info? e = some i) (hsz : i.size = sz)
    (h : FInv G0 w0 L N G a s w) {d : Nat} (hd : d < N) (ha : okArgs [x, y, z] args = true) (hr : rLsl0 sz (args.map (readArg s.env)) = some r) :
    ∃ cv, (execOp a.eval o).run P w = .ok (.value cv) w ∧ FInv G0 w0 L N G (a.put (some d) cv) { s with env := putO (stripTakes s.env args) (some d) r } w := by
  obtain ⟨base, h1, rfl⟩ := s_lsl0 (P := P) (w := w) ht hi hsz (by simpa using h.reads ha) hr
  refine ⟨_, by unfold execOp; rw [hop]; exact vrun h1, h.putOwn (by rintro t ht; cases ht; exact hd) (.data ?_) (fun t _ j sz' xs' hc => ?_) args⟩
  · cases base with
    | none => exact .lnil sz true
    | some ad => exact .lemp ad 0 sz true
  · cases j with
    | zero => cases hc; exact .inl ⟨rfl, base, rfl⟩
    | succ j => cases hc

theorem appends_sound {o : Oper} {c : Call} {x y : Operand} {t u : TypeId} {args : List AArg} {r : V} (hop : o.op = .call c) (hc : c.callee = .builtin .append) (ha : c.args = #[x, y]) (hat : c.argTypes = #[t, u]) (hap : isAppends P t u = true) (hK : isK args = true)
    (h : FInv G0 w0 L N G a s w) {d : Nat} (hd : d < N) (hk : okArgs [x, y] args = true) (hr : rAppends (args.map (readArg s.env)) = some r) :
    ∃ G' cv w', (execOp a.eval o).run P w = .ok (.value cv) w' ∧ FInv G0 w0 L N G' (a.put (some d) cv) { s with env := putO (stripTakes s.env args) (some d) r } w' := by
  simp only [isAppends, Bool.and_eq_true] at hap
  obtain ⟨hu, hap⟩ := hap
  split at hap
  case h_2 => cases hap
  rename_i e ht
  obtain ⟨i, hi, h1, h2, h3⟩ := isByteT_info hap
  obtain ⟨ar, br, rfl, ka, kb⟩ := okArgs_two hk
  obtain ⟨n, rfl⟩ : ∃ n, ar = .k n := by cases ar <;> simp [isK] at hK; exact ⟨_, rfl⟩
  have hxe : a.eval x = a.tmps.getD n Go.undef := by
    unfold okArg at ka
    split at ka <;> first | (rename_i heq; cases heq) | cases ka
    simp at ka; subst ka; rfl
  unfold rAppends at hr
  split at hr
  · rename_i xs bs heq
    simp only [List.map_cons, List.map_nil, List.cons.injEq, and_true, readArg] at heq
    obtain ⟨hxs, hbs⟩ := heq
    split at hr
    · rename_i hlen
      injection hr with hr; subst hr
      have hy := okArg_sound h.slots kb
      have hye : a.eval y = .string ⟨bs.toArray⟩ := by
        have : SRep G (a.eval y) (.str bs) := by
          have e1 : readArg s.env br = .str bs := hbs
          rw [e1] at hy; exact hy
        exact this.str_inv
      obtain ⟨b1, b2⟩ := bytes_ok bs
      have happs : Apps P w u i.size (bs.map byteV).length (a.eval y) (bs.map fun b => Value.int .u8 b.toNat) := by
        rw [hye]
        refine ⟨.inr (strD hu), fun w' => by simp [Builtin.lenOf, sizeL], fun w' _ => ?_, by simp [h1], fun v hv => ?_⟩
        · have := Lib.run_firstCells_string (P := P) w' i.size ⟨bs.toArray⟩
          rw [sizeL] at this
          rw [List.length_map, this]
          simp [Lib.strCells]
        · obtain ⟨b, _, rfl⟩ := List.mem_map.1 hv; rfl
      exact app_sound hop hc ha hat ht hi h1 h2 h3 (by simp [Value.cells]) h hd hxs hxe happs b1 b2 (by rw [bytes_flat]; exact bytes_rep bs) (by simpa using hlen) (by simpa using hlen) _ (by simp)
    · cases hr
  · cases hr

theorem replicate_rep {z : List Value} {zero : List V} (hz : RepL G.K z zero) : ∀ n, RepL G.K (List.replicate n z).flatten (List.replicate n zero).flatten
  | 0 => .nil
  | n + 1 => by simp only [List.replicate_succ, List.flatten_cons]; exact hz.append (replicate_rep hz n)

theorem made_list (z : Array Value) (hz : 0 < z.size) (n : Nat) : (madeCells z (n * z.size)).toList = (List.replicate n z.toList).flatten := by
  apply List.ext_getElem?
  intro i
  induction n generalizing i with
  | zero => simp [madeCells]
  | succ n ih =>
    rw [List.replicate_succ, List.flatten_cons]
    simp only [madeCells, Array.toList_map, List.getElem?_map, Array.getElem?_toList] at ih ⊢
    rw [List.getElem?_append]
    by_cases h1 : i < z.size
    · rw [if_pos (by simpa using h1)]
      have h2 : i < (n + 1) * z.size := by rw [Nat.add_mul]; omega
      simp [h2, Nat.mod_eq_of_lt h1, h1]
    · rw [if_neg (by simpa using h1)]
      have := ih (i - z.size)
      rw [Array.length_toList, ← this]
      by_cases h2 : i < (n + 1) * z.size
      · have h3 : i - z.size < n * z.size := by rw [Nat.add_mul] at h2; omega
        have h4 : i % z.size = (i - z.size) % z.size := by rw [Nat.mod_eq_sub_mod (by omega)]
        simp [h2, h3, h4]
      · have h3 : ¬ i - z.size < n * z.size := by rw [Nat.add_mul] at h2; omega
        simp [h2, h3]

theorem mkrow_sound {o : Oper} {t : TypeId} {x y : Operand} {sz bytes : Nat} {zero : List V} {args : List AArg} {r : V} {m : Mem} {d : Option Nat} (hop : o.op = .makeSlice t x y) (hmk : isMake P sz bytes zero t = true) (h : FInv G0 w0 L N G a s w) (hN : ∀ t, d = some t → t < N) (ha : okArgs [x, y] args = true)
    (hr : rMkrow sz bytes zero d (args.map (readArg s.env)) s.mem = some (r, m)) :
    ∃ G' cv w', (execOp a.eval o).run P w = .ok (.value cv) w' ∧ FInv G0 w0 L N G' (a.put d cv) { env := putO (stripTakes s.env args) d r, mem := m } w' := by
  unfold isMake at hmk
  split at hmk
  case h_2 => cases hmk
  rename_i e ht
  split at hmk
  case h_2 => cases hmk
  rename_i i hi
  simp only [Bool.and_eq_true, beq_iff_eq, decide_eq_true_eq] at hmk
  obtain ⟨⟨⟨⟨h1, h2⟩, h3⟩, h4⟩, h5⟩ := hmk
  split at h5
  case h_2 => cases h5
  rename_i z hz
  obtain ⟨hz1, hz2⟩ := repCs_sound (K := G.K) h5
  have hzl := hz1.length
  simp only [Array.length_toList] at hzl
  have hargs := h.reads ha
  unfold rMkrow at hr
  split at hr
  · rename_i d nn cc b m0 he hmem
    split at hr
    · rename_i hh
      obtain ⟨hn0, rfl, hnb, hns⟩ := hh
      split at hr
      · rename_i hb
        split at hr
        · rename_i hall
          injection hr with hr
          injection hr with e1 e2
          subst e1 e2
          rw [he] at hargs
          simp only [List.map_cons, List.map_nil] at hargs
          obtain ⟨_, _, hh, hx, hy⟩ := hargs.two
          cases hh
          obtain ⟨n, rfl⟩ : ∃ n : Nat, cc = n := ⟨cc.toNat, by omega⟩
          simp only [Int.toNat_natCast]
          have hL : m0.length = L := by have := h.lvl; rw [hmem] at this; simpa using this
          have h2' := h.two
          have hbi : (i.bytes : Int) * (n : Int) ≤ 281474976710656 := by rw [h2, Int.mul_comm]; omega
          have hn63 : (n : Int) ≤ 9223372036854775807 := by
            have : (n : Int) * 1 ≤ n * sz := Int.mul_le_mul_of_nonneg_left (by omega) (by omega)
            omega
          have hrun : (execOp a.eval o).run P w = .ok (.value (.slice (some ⟨w.heap.size, 0, none⟩) n n)) (w.alloc (.cells (madeCells z.cells (n * i.size)) e)) := by
            unfold execOp
            rw [hop]
            refine vrun ?_
            rw [hx.int_inv, hy.int_inv]
            have := run_make (P := P) w t e i z ht hi hz .i64 .i64 n n (by omega) (Int.le_refl _) hbi hn63
            simpa using this
          have hcells : (madeCells z.cells (n * i.size)).toList = (List.replicate n z.cells.toList).flatten := by
            rw [show i.size = z.cells.size by omega]
            exact made_list z.cells (by omega) n
          have hrep : RepL G.K (madeCells z.cells (n * i.size)).toList (List.replicate n zero).flatten := by
            rw [hcells]; exact replicate_rep hz1 n
          have hlen := hrep.length
          simp only [Array.length_toList, size_madeCells] at hlen
          have hnew : ((List.replicate n zero).flatten).all (newCell L) = true := by
            rw [List.all_eq_true]
            intro c hc
            obtain ⟨l, hl, hcl⟩ := List.mem_flatten.1 hc
            rw [List.eq_of_mem_replicate hl] at hcl
            rw [← hL]
            exact List.all_eq_true.1 hall c hcl
          obtain ⟨G', hG⟩ := h.putNew (l0 := L) (k := d) (n := (madeCells z.cells (n * i.size)).size) (O := .cells (madeCells z.cells (n * i.size)) e) (cs := (List.replicate n zero).flatten) (m' := bput b d (List.replicate n zero).flatten :: m0) (fun l t => by
              rw [hmem]
              simp only [mget, hL]
              by_cases hl : l = L
              · subst hl; simp [bget_bput]
              · rw [beq_ne hl]; simp [hl]) (by rw [hmem]; simp) (by rw [h.lvl]; omega) (by rw [hmem]; simp [mget, hL, hb]) (fun G' hG hlam hphi hK => by
              refine cells_new0 (by omega) hlam hphi hK (by rw [size_madeCells, hlen]; exact Nat.le_refl _) ?_ hnew
              rw [List.take_of_length_le (by rw [Array.length_toList, size_madeCells, hlen]; exact Nat.le_refl _)]
              exact (hrep.toS).mono hG) (d := some d) (by rintro t ht; cases ht; exact hN d rfl) (cv := .slice (some ⟨w.heap.size, 0, none⟩) n n) (r := .slc m0.length d 0 sz n) (fun G' hG hlv hlam => by
              rw [hL]
              exact .slc L d 0 sz n _ _ 0 n (by rw [hlv, h.lvl]; omega) (by omega) hlam ⟨Nat.le_refl _, by unfold maxLen; omega⟩ (.inr ⟨rfl, by simp [size_madeCells, h1]⟩)) (noc_sound rfl) args
          exact ⟨G', _, _, hrun, hG⟩
        · cases hr
      · cases hr
    · cases hr
  · cases hr

theorem okArg_fptr {x : Operand} {n : Nat} (h : okArg x (.c (.fptr n)) = true) : False := by
  cases x <;> simp [okArg] at h
  rename_i v
  cases v <;> simp [repC] at h
theorem okArg_tup {x : Operand} {vs : List V} (h : okArg x (.c (.tup vs)) = true) : False := by
  cases x <;> simp [okArg] at h
  rename_i v
  cases v <;> simp [repC] at h

theorem allocf_sound {o : Oper} {t : TypeId} {i : TypeInfo} {z : Value} {n : Nat} (hop : o.op = .alloc t) (hi : P.info? t = some i) (hz : i.zero = some z) (hzs : z.cells.size = n)
    (h : FInv G0 w0 L N G a s w) {d : Nat} (hd : d < N) (l : List AArg) :
    ∃ G' cv w', (execOp a.eval o).run P w = .ok (.value cv) w' ∧ FInv G0 w0 L N G' (a.put (some d) cv) { s with env := putO (stripTakes s.env l) (some d) (.fptr n) } w' := by
  have hrun : (execOp a.eval o).run P w = .ok (.value (.pointer (some ⟨w.heap.size, 0, none⟩))) (w.alloc (.cells z.cells t)) := by
    unfold execOp
    rw [hop]
    exact vrun (by simp [Instr.alloc, zeroValue, run_info hi, hz, newVar, newRow])
  obtain ⟨G', hG⟩ := h.putFresh (d := d) (k := 0) (cells := z.cells) (e := t) (r := .fptr n) (cv := .pointer (some ⟨w.heap.size, 0, none⟩)) hd (.fptr _ n) (fun j sz xs hc => by
    cases j with
    | succ j => cases hc
    | zero =>
      cases hc
      refine .inr ⟨w.heap.size, 1, z.cells, t, (0, 0), .inr ⟨rfl, rfl, rfl, rfl⟩, if_pos rfl, heap_alloc_new w _, .inl rfl, by omega, by simp, by unfold maxLen; omega, fun o _ => ?_⟩
      show (if w.heap.size = w.heap.size then (if o < 0 then z.cells[o]? else none) else _) = _
      rw [if_pos rfl, if_neg (by omega)]) l
  exact ⟨G', _, _, hrun, hG⟩

theorem boxc_sound {o : Oper} {t : TypeId} {x : Operand} {args : List AArg} {r : V} (hop : o.op = .box t x) (h : FInv G0 w0 L N G a s w) {d : Nat} (hd : d < N) (hk : okArgs [x] args = true) (hr : rBoxc (args.map (readArg s.env)) = some r) :
    ∃ G' cv w', (execOp a.eval o).run P w = .ok (.value cv) w' ∧ FInv G0 w0 L N G' (a.put (some d) cv) { s with env := putO (stripTakes s.env args) (some d) r } w' := by
  have hargs := h.reads hk
  unfold rBoxc at hr
  split at hr
  · rename_i xv heq
    rw [heq] at hargs
    split at hr
    · rename_i hdx
      injection hr with hr; subst hr
      obtain ⟨_, hh, hp⟩ := SRepL.one hargs
      simp only [List.map_cons, List.map_nil, List.cons.injEq, and_true] at hh
      subst hh
      have hrun : (execOp a.eval o).run P w = .ok (.value (.pointer (some ⟨w.heap.size, 0, none⟩))) (w.alloc (.cells (a.eval x).cells t)) := by
        unfold execOp
        rw [hop]
        exact vrun (by simp [Instr.box, newVar, newRow])
      obtain ⟨h1, h2⟩ := data_rep hp hdx
      have c := fresh_chg (k := (a.eval x).cells.size) (cells := (a.eval x).cells) (o := .slot L d 0) (e := t) (fz := (0, 0)) h.inv rfl
      obtain ⟨G', hG⟩ := h.putFresh (d := d) (k := (a.eval x).cells.size) (cells := (a.eval x).cells) (e := t) (r := .cptr xv.cells) (cv := .pointer (some ⟨w.heap.size, 0, none⟩)) hd (.data (.cptr _ 0 (a.eval x).cells.toList _ h2 (fun j u hu => by
          show (if w.heap.size = w.heap.size then (if 0 + j < (a.eval x).cells.size then (a.eval x).cells[0 + j]? else none) else _) = _
          have hj : j < (a.eval x).cells.size := by simpa using (List.getElem?_eq_some_iff.1 hu).1
          rw [if_pos rfl, Nat.zero_add, if_pos hj]
          simpa using hu) (h1.mono c.K))) (Claims.none (noc_sound rfl)) args
      exact ⟨G', _, _, hrun, hG⟩
    · cases hr
  · cases hr

theorem storec_sound {o : Oper} {t : TypeId} {i : TypeInfo} {x y : Operand} {p : Nat} {br : AArg} {r : V} (hop : o.op = .store t x y) (hi : P.info? t = some i) (h : FInv G0 w0 L N G a s w) (hk : okArgs [x, y] [.k p, br] = true)
    (hr : rStorec i.size [get s.env p, readArg s.env br] = some r) :
    ∃ G' w', (execOp a.eval o).run P w = .ok .skip w' ∧ FInv G0 w0 L N G' a { s with env := put (stripTakes s.env [.k p, br]) p r } w' := by
  obtain ⟨ar, br', he, ka, kb⟩ := okArgs_two hk
  cases he
  have hxe : a.eval x = a.tmps.getD p Go.undef := by rw [okArg_k ka]; rfl
  unfold rStorec at hr
  split at hr
  · rename_i n xv heq
    simp only [List.cons.injEq, and_true] at heq
    obtain ⟨e1, e2⟩ := heq
    split at hr
    · rename_i hh
      obtain ⟨hn, hdx, hlen⟩ := hh
      injection hr with hr; subst hr
      have hp := h.slots p
      rw [e1] at hp
      obtain ⟨b, hpb⟩ := hp.fptr_inv
      have hy := okArg_sound h.slots kb
      rw [e2] at hy
      have hown := h.own p
      rw [e1] at hown
      rcases hown 0 n [] rfl with ⟨_, base, h0⟩ | ⟨g, cap, cur, e, fz, h1, h2, h3, h4, h5, h6, h7, h8⟩
      · simp only [comp] at h0; rw [hpb] at h0; cases h0
      · rcases h1 with h1 | ⟨h1, _, rfl, rfl⟩
        · simp only [comp] at h1; rw [hpb] at h1; cases h1
        · simp only [comp] at h1
          rw [Nat.one_mul] at h5
          obtain ⟨d1, d2⟩ := data_rep hy hdx
          have hcl := d1.length
          simp only [Array.length_toList] at hcl
          have h1c := RepL.one d1 d2
          have hst := run_storeCells_at P g 0 e (a.eval y).cells.toList 0 cur w h3 (by simp; omega) h1c
          simp only [Nat.add_zero, List.take_zero, List.nil_append, Nat.zero_add] at hst
          rw [List.drop_of_length_le (by simp; omega), List.append_nil] at hst
          have hsz : (sizeOf t).run P w = .ok i.size w := by simp [sizeOf, run_info hi]
          have hrun : (execOp a.eval o).run P w = .ok .skip (w.setRow g (a.eval y).cells.toList.toArray) := by
            unfold execOp
            rw [hop]
            simp only [Instr.storeAt, hxe, h1, Instr.sureAddr, Sem.run_bind, Sem.run_pure, Result.andThen_ok, storeVar, hsz]
            rw [if_neg (by rw [hcl, hlen, hn]; simp)]
            simp only [Result.andThen_ok, hst]
          obtain ⟨G', hG⟩ := h.putFill (p := p) (g := g) (cur := cur) (cells := (a.eval y).cells.toList.toArray) (e := e) (sw := w.setRow g (a.eval y).cells.toList.toArray) (r := .cptr xv.cells) h2 h3 (fun o => h8 o (by simp)) (setRow_eq h3) rfl rfl rfl
            (fun G' hG hK => by
              rw [h1]
              refine .data (.cptr g 0 (a.eval y).cells.toList _ d2 (fun j u hu => ?_) (d1.mono hG.K))
              rw [Nat.zero_add, hK]
              simpa using hu) (noc_sound rfl) [.k p, br] (by simp)
          exact ⟨G', _, hrun, hG⟩
    · cases hr
  · cases hr

/-- All that slot n owns goes to slot d. -/
def allTo (L n : Nat) (d : Option Nat) : Own → Option Own
  | .slot l t i => if l = L ∧ t = n then d.map (fun d => .slot L d i) else some (.slot l t i)
  | o => some o

theorem mv_sound {o : Oper} {x : Operand} {ao : AOp} {r : V} (_hrun : (execOp a.eval o).run P w = .ok (.value (a.eval x)) w) (h : FInv G0 w0 L N G a s w) (hN : ∀ t, ao.dst = some t → t < N) (hk : okArgs [x] ao.args = true)
    (hr : rMv (ao.args.map (readArg s.env)) = some r) : ∃ G', FInv G0 w0 L N G' (a.put ao.dst (a.eval x)) { s with env := putO (stripTakes s.env ao.args) ao.dst r } w := by
  obtain ⟨ar, har, hk⟩ := okArgs_one hk
  rw [har] at hr ⊢
  simp only [List.map_cons, List.map_nil, rMv, Option.some.injEq] at hr
  have hrep := okArg_sound h.slots hk
  rw [hr] at hrep
  cases ar with
  | t n =>
    refine ⟨G, h.putPure hN hrep ?_ _⟩
    rw [← hr]
    exact noClaim_strip _
  | c v =>
    refine ⟨G, h.putOwn hN hrep (fun t _ j sz xs hc => ?_) _⟩
    have hv : v = r := hr
    subst hv
    by_cases ho : ∃ sz xs, v = .list sz xs true
    · obtain ⟨sz', xs', rfl⟩ := ho
      rcases owned_arg (a := a) (s := s) hk (show readArg s.env (.c (.list sz' xs' true)) = .list sz' xs' true from rfl) with ⟨n, hn, _⟩ | ⟨rfl, e2⟩
      · cases hn
      · rw [e2]
        cases j with
        | zero => cases hc; exact .inl ⟨rfl, none, rfl⟩
        | succ j => cases hc
    · have hnt : ∀ vs, v ≠ .tup vs := by
        rintro vs rfl
        exact okArg_tup hk
      have hnf : ∀ n, v ≠ .fptr n := by
        rintro n rfl
        exact okArg_fptr hk
      rw [noClaim_of (fun sz xs hh => ho ⟨sz, xs, hh⟩) hnt hnf j] at hc
      cases hc
  | k n =>
    have hxe : a.eval x = a.tmps.getD n Go.undef := by rw [okArg_k hk]; rfl
    have hgn : get s.env n = r := hr
    refine ⟨G.ren (allTo L n ao.dst), h.putRen (σ := allTo L n ao.dst) (fun _ _ => rfl) (fun _ _ _ => rfl) (fun l t i hl => ?_) (fun o o' h1 h2 => ?_) hN hrep (fun t ht => ?_) (fun t i p ht hc => ?_)⟩
    · show (if l = L ∧ t = n then _ else _) = _
      rw [if_neg (by omega)]
    · cases o with
      | slot l t i =>
        replace h2 : (if l = L ∧ t = n then ao.dst.map (fun d => Own.slot L d i) else some (.slot l t i)) = some o' := h2
        split at h2
        · obtain ⟨d, _, rfl⟩ := Option.map_eq_some_iff.1 h2
          simp [lowOwn]
        · cases h2; exact h1
      | box l t => cases h2; trivial
      | cell l t i => cases h2; trivial
      | ret i => exact h1.elim
    · have hc := h.own n
      rw [hgn, ← hxe] at hc
      refine hc.ren (fun i p _ => ?_)
      show (if L = L ∧ n = n then _ else _) = _
      rw [if_pos ⟨rfl, rfl⟩, ht]; rfl
    · show (if L = L ∧ t = n then _ else _) = _
      rw [if_neg]
      rintro ⟨_, rfl⟩
      rw [stripTakes_taken (l := [.k t]) (by simp)] at hc
      cases hc

/-- A variable read at a place of a box. -/
theorem s_loadB {t : TypeId} {i : TypeInfo} {d : TypeDesc} {n : Option Nat} {b o : Nat} {cur : Array Value} {e : TypeId} {fz : Nat × Nat} {cs : List V} {r : V} (hi : P.info? t = some i) (hd : P.underlying t = some d)
    (hn : n = aggN d i.size) (hheap : w.heap[b]? = some (.cells cur e fz)) (hr : SRepL G (cur.toList.take cs.length) cs) (h : loadB n (cs.drop o) = some r) :
    ∃ cv, (Instr.loadAt t (.pointer (some ⟨b, o, none⟩))).run P w = .ok cv w ∧ SRep G cv r := by
  have hcell : ∀ k (i : Nat) (u : Value), (((cur.toList.take cs.length).drop o).take k)[i]? = some u → w.cell? ⟨b, o + i, none⟩ = some u := by
    intro k i u hu
    rw [List.getElem?_take] at hu
    split at hu
    · rw [List.getElem?_drop, List.getElem?_take] at hu
      split at hu
      · rw [cell_of_heap hheap]; simpa using hu
      · cases hu
    · cases hu
  cases n with
  | none =>
    refine s_loadAt (vs := (cur.toList.take cs.length).drop o) (cs := cs.drop o) hi hd hn (fun i u hu => ?_) (hr.drop o) h (by simp)
    exact hcell (o + i + cur.size + 1) i u (by rw [List.getElem?_take, if_pos (by omega)]; exact hu)
  | some k =>
    simp only [loadB] at h
    split at h
    · rename_i hh
      obtain ⟨h1, h2⟩ := hh
      injection h with h; subst h
      have hrep := ((hr.drop o).take k).strip1
      refine s_loadAt (vs := ((cur.toList.take cs.length).drop o).take k) (cs := ((cs.drop o).take k).map V.strip1) hi hd hn (hcell k) hrep ?_ (fun _ => by simpa using h2)
      simp only [loadV]
      rw [if_pos (by omega), List.take_of_length_le (by omega)]
    · cases h

/-- A store into a box of cells of which none is owned; the operation gives a number. -/
theorem FInv.putCopy (h : FInv G0 w0 L N G a s w) {l0 t0 b off : Nat} {cur : Array Value} {e : TypeId} {fz : Nat × Nat} {cs new : List V} {news : List Value} {sw : World} (hl1 : l0 ≠ 1) (hm : mget s.mem l0 t0 = some cs)
    (hlam : G.lam l0 t0 = some (b, cur.size)) (hphi : G.phi b = some (.box l0 t0)) (hheap : w.heap[b]? = some (.cells cur e fz) ∧ noFz fz cur.size) (hcs : cs.length ≤ cur.size) (hrep : SRepL G (cur.toList.take cs.length) cs) (hKn : ∀ o, G.K b o = none)
    (hcl : ∀ i sz xs v, cs[i]? = some (.list sz xs true) → cur[i]? = some v → OwnOK G w (.cell l0 t0 i) sz xs v) (hdc : ∀ c ∈ cs, dataCell l0 c = true)
    (hoff : off + new.length ≤ cs.length) (hn : SRepL G news new) (hnd : ∀ c ∈ new, dataCell l0 c = true)
    (hsw : sw.heap = w.heap.setIfInBounds b (.cells (cur.toList.take off ++ news ++ cur.toList.drop (off + news.length)).toArray e fz)) (ho : sw.os = w.os) (ht : sw.tape = w.tape) (hp : sw.output = w.output)
    {l : List AArg} (hno : ∀ c ∈ new, ∀ sz xs, c ≠ .list sz xs true) {d : Option Nat} (hd : ∀ t, d = some t → t < N) (k : Nat) :
    ∃ G', FInv G0 w0 L N G' (a.put d (goInt k)) { env := putO (stripTakes s.env l) d (.int .i64 k), mem := mput s.mem l0 t0 (spliceAt off new cs) } sw := by
  have hnl := hn.length
  have hb := heap_lt hheap.1
  have hgh : sw.heap[b]? = some (.cells (cur.toList.take off ++ news ++ cur.toList.drop (off + news.length)).toArray e fz) := by rw [hsw]; simp [hb]
  have hsl := splice_len hoff
  have hsize : (cur.toList.take off ++ news ++ cur.toList.drop (off + news.length)).toArray.size = cur.size := by
    simp only [List.size_toArray, List.length_append, List.length_take, List.length_drop, Array.length_toList]; omega
  have hrep' : SRepL G ((cur.toList.take off ++ news ++ cur.toList.drop (off + news.length)).take (spliceAt off new cs).length) (spliceAt off new cs) := by
    have e1 : (cur.toList.take off ++ news ++ cur.toList.drop (off + news.length)).take (spliceAt off new cs).length =
        (cur.toList.take cs.length).take off ++ news ++ (cur.toList.take cs.length).drop (off + news.length) := by
      rw [hsl]
      apply List.ext_getElem?
      intro i
      rw [splice_gets (by rw [List.length_take]; simp; omega), List.getElem?_take, splice_gets (by simp; omega), List.getElem?_take]
      by_cases h1 : off ≤ i ∧ i < off + news.length
      · rw [if_pos h1, if_pos h1, if_pos (by omega)]
      · rw [if_neg h1, if_neg h1]
    rw [e1]
    unfold spliceAt
    rw [← hnl]
    exact ((hrep.take off).append hn).append (hrep.drop _)
  have hdc' : ∀ c ∈ spliceAt off new cs, dataCell l0 c = true := by
    intro c hc
    simp only [spliceAt, List.mem_append] at hc
    rcases hc with (hc | hc) | hc
    · exact hdc c (List.mem_of_mem_take hc)
    · exact hnd c hc
    · exact hdc c (List.mem_of_mem_drop hc)
  have hold : ∀ i sz xs v, ¬ (off ≤ i ∧ i < off + new.length) → (spliceAt off new cs)[i]? = some (.list sz xs true) →
      (cur.toList.take off ++ news ++ cur.toList.drop (off + news.length)).toArray[i]? = some v → OwnOK G sw (.cell l0 t0 i) sz xs v := by
    intro i sz xs v hi hc hv
    rw [splice_get hoff, if_neg hi] at hc
    rw [List.getElem?_toArray, splice_gets (by simp; omega), if_neg (by omega)] at hv
    have := ((hcl i sz xs v hc (by simpa using hv)).stored hphi hsw (by simp)).ren (σ := some) (p := .cell l0 t0 i) rfl
    rw [ren_id] at this; exact this
  refine ⟨G, ?_⟩
  have := h.putMem (σ := some) (cs' := spliceAt off new cs) hm hlam hphi hKn hsw ho ht hp (fun _ _ => rfl) (fun _ _ _ _ => rfl) (fun _ _ _ _ => rfl) (fun o o' h1 h2 => by cases h2; exact h1) ?_ (d := d) hd (cv := goInt k) (r := .int .i64 k) (fun _ => .data (.int _ _)) (fun _ _ => Claims.none (noc_sound rfl)) (l := l) (fun _ _ _ _ _ => rfl)
  · rw [ren_id] at this; exact this
  · rw [ren_id]
    refine ⟨fun _ _ => ⟨⟨b, _, e, fz, by rw [hlam, hsize], hphi, ⟨hgh, by rw [hsize]; exact hheap.2⟩, by rw [hsl, hsize]; exact hcs, hrep', hKn, fun i sz xs v hc hv => ?_⟩, hdc'⟩, fun h1 => absurd h1 hl1⟩
    by_cases hi : off ≤ i ∧ i < off + new.length
    · rw [splice_get hoff, if_pos hi] at hc
      exact absurd rfl (hno _ (List.mem_of_getElem? hc) sz xs)
    · exact hold i sz xs v hi hc hv

/-- copy(a row, a list). -/
theorem copy_sound {o : Oper} {c : Call} {x y : Operand} {dT sT e : TypeId} {i : TypeInfo} {sz : Nat} (hop : o.op = .call c) (hc : c.callee = .builtin .copy) (ha : c.args = #[x, y]) (hat : c.argTypes = #[dT, sT])
    (hu : P.underlying dT = some (.slice e)) (hi : P.info? e = some i) (hsz : i.size = sz) (h : FInv G0 w0 L N G a s w) {args : List AArg} (hargs : okArgs [x, y] args = true) {d : Option Nat} (hd : ∀ t, d = some t → t < N) {r : V} {m : Mem}
    (hr : rCopyb sz (args.map (readArg s.env)) s.mem = some (r, m)) :
    ∃ G' cv w', (execOp a.eval o).run P w = .ok (.value cv) w' ∧ FInv G0 w0 L N G' (a.put d cv) { env := putO (stripTakes s.env args) d r, mem := m } w' := by
  obtain ⟨ar, br, rfl, ka, kb⟩ := okArgs_two hargs
  unfold rCopyb at hr
  split at hr
  case h_2 => cases hr
  rename_i m0 l k off sz' n sz2 xs own he
  simp only [List.map_cons, List.map_nil, List.cons.injEq, and_true] at he
  obtain ⟨he1, he2⟩ := he
  have hp := okArg_sound h.slots ka
  have hv := okArg_sound h.slots kb
  rw [he1] at hp
  rw [he2] at hv
  obtain ⟨b, nn, off', cap, ⟨hlt, hl1, hlam⟩, ⟨hc1, hc2⟩, hoo, hpe⟩ := hp.slc_inv
  obtain ⟨cs, hm, hr2⟩ := bind_some_iff.1 hr
  clear hr
  split at hr2
  case isFalse => cases hr2
  rename_i hh
  obtain ⟨rfl, rfl, hne, h2, h3⟩ := hh
  injection hr2 with hr2
  injection hr2 with hr1 hr2
  subst hr1 hr2
  obtain ⟨⟨b', cur, e', fz, c1, c2, c3, c4, c5, c6, c7⟩, c8⟩ := (h.inv.mem l k cs hm).1 hl1 hne
  rw [hlam] at c1
  cases c1
  have hdc : ∀ c ∈ flat (xs.take n), dataCell l c = true := by simpa using h3
  -- what is copied
  obtain ⟨base, cap2, news, hye, hfc, hnr, hnl, hok⟩ : ∃ base cap2, ∃ news : List Value, a.eval y = .slice base xs.length cap2 ∧ (Builtin.firstCells sz (Nat.min xs.length n) (.slice base xs.length cap2)).run P w = .ok news.toArray w ∧ RepL G.K news (flat (xs.take n)) ∧
      news.length = Nat.min xs.length n * sz ∧ ∀ c ∈ flat (xs.take n), okc c = true := by
    rcases hv.list_inv with ⟨rfl, base, cap2, hv1, hv2⟩ | ⟨b2, off2, cap2, vs, hv1, hv2, hv3, hv4, hv5, hv6⟩
    · refine ⟨base, cap2, [], hv1, ?_, by simp [flat]; exact .nil, by simp, by simp [flat]⟩
      cases base <;> simp [Builtin.firstCells, loadCells, loadCellsFrom]
    · have hvl : vs.length = xs.length * sz := by rw [hv6.length, flat_length hv3]
      have hmin : Nat.min xs.length n * sz ≤ xs.length * sz := Nat.mul_le_mul_right _ (Nat.min_le_left _ _)
      have htk : flat (xs.take n) = (flat xs).take (Nat.min xs.length n * sz) := by
        rcases Nat.le_total xs.length n with hxn | hxn
        · have e1 : Nat.min xs.length n = xs.length := Nat.min_eq_left hxn
          rw [e1, List.take_of_length_le hxn, List.take_of_length_le (l := flat xs) (by rw [flat_length hv3]; exact Nat.le_refl _)]
        · have e1 : Nat.min xs.length n = n := Nat.min_eq_right hxn
          rw [e1, flat_take hv3]
      refine ⟨_, cap2, vs.take (Nat.min xs.length n * sz), hv1, ?_, by rw [htk]; exact hv6.take _, by rw [List.length_take, hvl]; exact Nat.min_eq_left hmin, fun c hc => hv4 c (by rw [htk] at hc; exact List.mem_of_mem_take hc)⟩
      refine run_firstCells_some (P := P) w sz _ _ _ _ _ (by rw [List.length_take, hvl]; exact Nat.min_eq_left hmin) fun j u hu => ?_
      rw [List.getElem?_take] at hu
      split at hu
      · exact row_there h.inv hv5 j u hu
      · cases hu
  have hcl := hnr.length
  have hfit : off + news.length ≤ cs.length := by
    rw [hnl]
    have : Nat.min xs.length n * sz ≤ n * sz := Nat.mul_le_mul_right _ (Nat.min_le_right _ _)
    omega
  have h1c := hnr.one hok
  have hst := run_storeCells_any (P := P) b off e' fz news 0 cur w c3.1 c3.2 (by omega) h1c
  simp only [Nat.add_zero] at hst
  have hst' : (storeCells ⟨b, off', none⟩ news).run P w = .ok () (w.setRow b (cur.toList.take off ++ news ++ cur.toList.drop (off + news.length)).toArray) := by
    rcases hoo with h0 | ⟨rfl, _⟩
    · have hn0 : n = 0 := by omega
      have : news = [] := List.eq_nil_of_length_eq_zero (by rw [hnl, hn0]; simp)
      subst this
      exact hst
    · exact hst
  refine (h.putCopy (new := flat (xs.take n)) (l := [ar, br]) hl1 hm hlam c2 c3 c4 c5 c6 c7 c8 (by rw [← hcl]; exact hfit) hnr.toS hdc (setRow_eq c3.1) rfl rfl rfl (fun c hc sz xs => okc_own (hok c hc) sz xs) hd (Nat.min xs.length n)).elim fun G' hG => ⟨G', _, _, ?_, hG⟩
  unfold execOp
  rw [hop]
  have hrun : (Builtin.copy_ #[dT, sT] o.type #[.slice (some ⟨b, off', none⟩) n cap, .slice base xs.length cap2]).run P w = .ok (goInt (Nat.min xs.length n)) (w.setRow b (cur.toList.take off ++ news ++ cur.toList.drop (off + news.length)).toArray) := by
    simp [Builtin.copy_, run_underlying hu, Builtin.lenOf, sizeOf, typeInfo, hi, hsz, hfc, hst']
  simp [resolve, hc, ha, hat, invoke, builtin, hpe, hye, hrun]

/-- The beginning of a range over a text. -/
theorem rng_sound {o : Oper} {t : TypeId} {x : Operand} {args : List AArg} {r : V} {m : Mem} {d : Option Nat} (hop : o.op = .range t x) (hu : P.underlying t = some .string) (h : FInv G0 w0 L N G a s w) (hN : ∀ t, d = some t → t < N) (ha : okArgs [x] args = true)
    (hr : rRng (args.map (readArg s.env)) s.mem = some (r, m)) :
    ∃ G' cv w', (execOp a.eval o).run P w = .ok (.value cv) w' ∧ FInv G0 w0 L N G' (a.put d cv) { env := putO (stripTakes s.env args) d r, mem := m } w' := by
  obtain ⟨ar, rfl, ka⟩ := okArgs_one ha
  unfold rRng at hr
  split at hr
  · rename_i m0 sx he
    simp only [List.map_cons, List.map_nil, List.cons.injEq, and_true] at he
    have hx := okArg_sound h.slots ka
    rw [he] at hx
    have hxe := hx.str_inv
    obtain ⟨⟨k, m'⟩, h1, h2⟩ := Option.map_eq_some_iff.1 hr
    injection h2 with e1 e2
    subst e1 e2
    obtain ⟨g1, g2, g3, g4⟩ := mnew_spec h1
    have hrun : (execOp a.eval o).run P w = .ok (.value (.pointer (some ⟨w.heap.size, 0, none⟩))) (w.alloc (.stringIter ⟨sx.toArray⟩ 0)) := by
      unfold execOp
      rw [hop]
      exact vrun (by rw [hxe]; exact run_range_string w t _ hu)
    obtain ⟨G', hG⟩ := h.putNew (l0 := 1) (k := k) (n := 0) (O := .stringIter ⟨sx.toArray⟩ 0) (cs := [.siter sx 0]) (m' := m') g4 g2 g1 g3 (fun G' hG hlam hphi hK =>
        ⟨fun h1 => absurd rfl h1, fun _ => ⟨⟨w.heap.size, 0, hlam, hphi, hK, by rw [heap_alloc_new]; exact .inr ⟨sx, 0, rfl, rfl⟩⟩⟩⟩)
      (d := d) hN (cv := .pointer (some ⟨w.heap.size, 0, none⟩)) (r := .iref k) (fun G' hG hlv hlam => .iref k _ _ (by rw [hlv]; exact g1) hlam) (noc_sound rfl) [ar]
    exact ⟨G', _, _, hrun, hG⟩
  · cases hr

/-- The next rune. -/
theorem nxt_sound {o : Oper} {x : Operand} {args : List AArg} {r : V} {m : Mem} {d : Option Nat} (hop : o.op = .next x true) (h : FInv G0 w0 L N G a s w) (hN : ∀ t, d = some t → t < N) (ha : okArgs [x] args = true)
    (hr : rNxt (args.map (readArg s.env)) s.mem = some (r, m)) :
    ∃ G' cv w', (execOp a.eval o).run P w = .ok (.value cv) w' ∧ FInv G0 w0 L N G' (a.put d cv) { env := putO (stripTakes s.env args) d r, mem := m } w' := by
  obtain ⟨ar, rfl, ka⟩ := okArgs_one ha
  unfold rNxt at hr
  split at hr
  case h_2 => cases hr
  rename_i m0 t' he
  simp only [List.map_cons, List.map_nil, List.cons.injEq, and_true] at he
  have hx := okArg_sound h.slots ka
  rw [he] at hx
  obtain ⟨b, n, hlam, hxe⟩ := hx.iref_inv
  obtain ⟨cs, hm, hr2⟩ := bind_some_iff.1 hr
  clear hr
  split at hr2
  case h_2 => cases hr2
  rename_i sx pos
  obtain ⟨b', n', c1, c2, c3, c4⟩ := ((h.inv.mem 1 t' _ hm).2 rfl).ex
  rw [hlam] at c1
  cases c1
  rcases c4 with ⟨_, _, _, _, e1, _⟩ | ⟨s1, p1, e1, e2⟩
  · cases e1
  cases e1
  have hobj : (getObj b).run P w = .ok (.stringIter ⟨sx.toArray⟩ pos) w := by simp [getObj, Sem.run, e2]
  have hsz : (⟨sx.toArray⟩ : ByteArray).size = sx.length := by simp [ByteArray.size]
  split at hr2
  · rename_i hlt
    injection hr2 with hr2
    injection hr2 with e3 e4
    subst e3 e4
    have hrun : (execOp a.eval o).run P w = .ok (.value (.tuple #[.bool true, .int .i64 pos, .int .i32 (Utf8.decode ⟨sx.toArray⟩ pos).1])) { w with heap := w.heap.setIfInBounds b (.stringIter ⟨sx.toArray⟩ (pos + (Utf8.decode ⟨sx.toArray⟩ pos).2)) } := by
      unfold execOp
      rw [hop]
      refine vrun ?_
      rw [hxe]
      have hl : pos < (⟨sx.toArray⟩ : ByteArray).size := by rw [hsz]; exact hlt
      simp only [Instr.next, Sem.run_bind, hobj, Result.andThen_ok, hl, if_true]
      simp [setObj, Sem.run, goInt, e2]
    have := h.putObj (sw := { w with heap := w.heap.setIfInBounds b (.stringIter ⟨sx.toArray⟩ (pos + (Utf8.decode ⟨sx.toArray⟩ pos).2)) }) (cs' := [.siter sx (pos + (Utf8.decode ⟨sx.toArray⟩ pos).2)]) hm hlam c2 c3 (.inr ⟨sx, _, rfl, rfl⟩) rfl rfl rfl rfl (d := d) hN
      (cv := .tuple #[.bool true, .int .i64 pos, .int .i32 (Utf8.decode ⟨sx.toArray⟩ pos).1]) (r := .tup [.bool true, .int .i64 pos, .int .i32 (Utf8.decode ⟨sx.toArray⟩ pos).1]) (fun _ => ?_) ?_ [ar]
    · exact ⟨G, _, _, hrun, this⟩
    · exact SRep.tup [.bool true, .int .i64 pos, .int .i32 (Utf8.decode ⟨sx.toArray⟩ pos).1] _ (.cons (.data (.bool _)) (.cons (.data (.int _ _)) (.cons (.data (.int _ _)) .nil)))
    · exact noClaim_strip (.tup [.bool true, .int .i64 pos, .int .i32 (Utf8.decode ⟨sx.toArray⟩ pos).1])
  · rename_i hge
    injection hr2 with hr2
    injection hr2 with e3 e4
    subst e3 e4
    have hrun : (execOp a.eval o).run P w = .ok (.value (.tuple #[.bool false])) w := by
      unfold execOp
      rw [hop]
      refine vrun ?_
      rw [hxe]
      have hl : ¬ pos < (⟨sx.toArray⟩ : ByteArray).size := by rw [hsz]; exact hge
      simp only [Instr.next, Sem.run_bind, hobj, Result.andThen_ok, hl, if_false, Sem.run_pure]
    exact ⟨G, _, _, hrun, h.putPure hN (SRep.tup [.bool false] _ (.cons (.data (.bool _)) .nil)) (noClaim_strip (.tup [.bool false])) [ar]⟩

/-! ### Rows of the arena's -/

theorem okc_new {x : V} (h : okc x = true) : newCell 0 x = true := by
  cases x <;> simp [okc, V.isOneCell, isLocal, V.isOwn, newCell, dataCell] at h ⊢ <;> simp_all

/-- A box dies. -/
theorem FInv.kill (h : FInv G0 w0 L N G a s w) {l0 t0 : Nat} {cs : List V} (h1 : l0 ≠ 1) (hm : mget s.mem l0 t0 = some cs) : FInv G0 w0 L N G a { s with mem := mput s.mem l0 t0 [] } w := by
  have hlt := mget_lt hm
  have hg : ∀ l t, mget (mput s.mem l0 t0 []) l t = if l = l0 ∧ t = t0 then some [] else mget s.mem l t := fun l t => mget_mput s.mem l0 t0 [] l t hlt
  refine ⟨⟨by rw [mput_length]; exact h.inv.lv, by rw [mput_length]; exact h.inv.two, h.inv.kh, fun l t cs' hq => ?_, fun l t hl hq => ?_, h.inv.lamL, h.inv.phiL⟩, by rw [mput_length]; exact h.lvl, h.two, h.size, h.defers, h.slots, h.own, h.ext, h.fresh0, h.fresh⟩
  · simp only [hg] at hq
    split at hq
    · rename_i hc
      obtain ⟨rfl, rfl⟩ := hc
      cases hq
      exact ⟨fun _ h2 => absurd rfl h2, fun h2 => absurd h2 h1⟩
    · exact h.inv.mem l t cs' hq
  · simp only [hg] at hq
    split at hq
    · cases hq
    · exact h.inv.lamBox l t (by rwa [mput_length] at hl) hq

/-- A dead box's block is written, and is a new box. -/
theorem FInv.putRebox (h : FInv G0 w0 L N G a s w) {t0 k b : Nat} {cur cells : Array Value} {e : TypeId} {fz : Nat × Nat} {cs : List V} {m' : Mem} {sw : World}
    (hdead : mget s.mem 0 t0 = some []) (hphi : G.phi b = some (.box 0 t0)) (hK : ∀ o, G.K b o = none) (hheap : w.heap[b]? = some (.cells cur e fz)) (hfz : noFz fz cells.size)
    (hm' : ∀ l t, mget m' l t = if l = 0 ∧ t = k then some cs else mget s.mem l t) (hlen : m'.length = s.mem.length) (hn : mget s.mem 0 k = none)
    (hsw : sw.heap = w.heap.setIfInBounds b (.cells cells e fz)) (ho : sw.os = w.os) (ht : sw.tape = w.tape) (hp : sw.output = w.output) (hcl : cs.length ≤ cells.size) (hcr : RepL G.K (cells.toList.take cs.length) cs) (hok : ∀ c ∈ cs, okc c = true)
    {d : Option Nat} (hd : ∀ t, d = some t → t < N) {cv : Value} {r : V} (hr : ∀ G' : Gh, GLe G G' → G'.lv = s.mem.length → G'.lam 0 k = some (b, cells.size) → SRep G' cv r) (hc : noClaim r) (l : List AArg) :
    ∃ G', FInv G0 w0 L N G' (a.put d cv) { env := putO (stripTakes s.env l) d r, mem := m' } sw := by
  have hblt := heap_lt hheap
  have h2 := h.inv.two
  have hlam : G.lam 0 k = none := h.inv.lamBox 0 k (by omega) hn
  have hsz : sw.heap.size = w.heap.size := by rw [hsw]; simp
  have hb : sw.heap[b]? = some (.cells cells e fz) := by rw [hsw]; simp [hblt]
  have hob : ∀ x, x ≠ b → sw.heap[x]? = w.heap[x]? := fun x hx => by rw [hsw]; simp [Ne.symm hx]
  let G' : Gh := { G with lam := fun l t => if l = 0 ∧ t = k then some (b, cells.size) else G.lam l t, phi := fun x => if x = b then some (.box 0 k) else G.phi x }
  have c : Chg (fun x => x = b) G w G' sw := by
    refine ⟨rfl, fun _ _ _ h => h, fun l t p hp => ?_, by omega, ho, ht, hp, fun x hx hne => ⟨hob x hne, fun _ => rfl, ?_⟩⟩
    · show (if _ then _ else _) = _
      rw [if_neg (by rintro ⟨rfl, rfl⟩; rw [hlam] at hp; cases hp)]; exact hp
    · show (if x = b then _ else _) = _
      rw [if_neg hne]
  have hGlam : G'.lam 0 k = some (b, cells.size) := by
    show (if _ then _ else _) = _
    rw [if_pos ⟨rfl, rfl⟩]
  refine ⟨G', ⟨by show G.lv = _; rw [h.inv.lv, hlen], by rw [hlen]; exact h2, fun x i v hv => ?_, fun l t cs' hg => ?_, fun l t hl hg => ?_, fun l t p hl => ?_, fun x hx => ?_⟩, by rw [hlen]; exact h.lvl, h.two, by rw [put_size]; exact h.size, by rw [put_defers]; exact h.defers,
    put_slots h.size hd (fun _ => hr G' c.gle h.inv.lv hGlam) (fun t => (h.slots t).mono c.gle) l,
    put_claims h.size hd (fun t _ => Claims.none hc) (fun t _ => c.claims (stripTakes_claims (h.own t)) (fun x i hx _ hf => by subst hf; rw [hphi] at hx; cases hx)),
    c.ext' h.ext (fun x hx hno hf => ?_) (fun x l t hl h1 => ?_), h.fresh0, fun x o hx => ?_⟩
  · have hne : x ≠ b := by rintro rfl; have h1 : G.K x i = some v := hv; rw [hK] at h1; cases h1
    rw [cell_same (hob x hne)]; exact h.inv.kh x i v hv
  · rw [hm'] at hg
    by_cases hlt : l = 0 ∧ t = k
    · obtain ⟨rfl, rfl⟩ := hlt
      simp only [and_self, if_true, Option.some.injEq] at hg
      subst hg
      refine ⟨fun _ _ => ⟨⟨b, cells, e, fz, hGlam, if_pos rfl, ⟨hb, hfz⟩, hcl, (RepL.toS (G := G') hcr), hK, fun i sz xs v hci _ => ?_⟩, fun c hc => ?_⟩, fun h1 => by cases h1⟩
      · exact absurd rfl (okc_own (hok _ (List.mem_of_getElem? hci)) sz xs)
      · have := okc_new (hok c hc)
        simp only [newCell, Bool.and_eq_true] at this
        exact this.1
    · rw [if_neg hlt] at hg
      by_cases hlt2 : l = 0 ∧ t = t0
      · obtain ⟨rfl, rfl⟩ := hlt2
        rw [hdead] at hg
        cases hg
        exact ⟨fun _ h3 => absurd rfl h3, fun h3 => by cases h3⟩
      · refine c.box h.inv.lamL (h.inv.mem l t cs' hg) (fun x hx _ hf => ?_)
        subst hf
        rcases hx with hx | ⟨i, hx⟩
        · rw [hphi] at hx; cases hx; exact hlt2 ⟨rfl, rfl⟩
        · rw [hphi] at hx; cases hx
  · rw [hm'] at hg
    split at hg
    · cases hg
    · rename_i hne
      show (if _ then _ else _) = _
      rw [if_neg hne]
      exact h.inv.lamBox l t (by rw [← hlen]; exact hl) hg
  · replace hl : (if l = 0 ∧ t = k then some (b, cells.size) else G.lam l t) = some p := hl
    rw [hsz]
    split at hl
    · cases hl; exact hblt
    · exact h.inv.lamL l t p hl
  · rw [hsz]
    by_cases hx' : x = b
    · subst hx'; exact hblt
    · refine h.inv.phiL x (fun h0 => hx ?_)
      show (if x = b then _ else _) = _
      rw [if_neg hx']; exact h0
  · subst hf
    obtain ⟨_, _, e3⟩ := h.ext.blk x hx hno
    have := hno _ (e3.symm.trans hphi)
    cases this
  · by_cases hx' : x = b
    · subst hx'
      rw [hphi] at h1; cases h1
      exact ⟨k, if_pos rfl⟩
    · exact ⟨t, by show (if x = b then _ else _) = _; rw [if_neg hx']; exact h1⟩
  · replace hx : (if x = b then some (.box 0 k) else G.phi x) = some o := hx
    split at hx
    · cases hx; trivial
    · exact h.fresh x o hx

/-- An owned block is written, and is a new box. -/
theorem FInv.putReboxO (h : FInv G0 w0 L N G a s w) {n0 k b : Nat} {cur cells : Array Value} {e : TypeId} {fz : Nat × Nat} {cs : List V} {m' : Mem} {sw : World}
    (hphi : G.phi b = some (.slot L n0 0)) (hK : ∀ o, G.K b o = none) (hheap : w.heap[b]? = some (.cells cur e fz)) (hfz : noFz fz cells.size)
    (hm' : ∀ l t, mget m' l t = if l = 0 ∧ t = k then some cs else mget s.mem l t) (hlen : m'.length = s.mem.length) (hn : mget s.mem 0 k = none)
    (hsw : sw.heap = w.heap.setIfInBounds b (.cells cells e fz)) (ho : sw.os = w.os) (ht : sw.tape = w.tape) (hp : sw.output = w.output) (hcl : cs.length ≤ cells.size) (hcr : RepL G.K (cells.toList.take cs.length) cs) (hok : ∀ c ∈ cs, okc c = true)
    {d : Option Nat} (hd : ∀ t, d = some t → t < N) {cv : Value} {r : V} (hr : ∀ G' : Gh, GLe G G' → G'.lv = s.mem.length → G'.lam 0 k = some (b, cells.size) → SRep G' cv r) (hc : noClaim r) (l : List AArg) (hl : .k n0 ∈ l) :
    ∃ G', FInv G0 w0 L N G' (a.put d cv) { env := putO (stripTakes s.env l) d r, mem := m' } sw := by
  have hblt := heap_lt hheap
  have h2 := h.inv.two
  have hlam : G.lam 0 k = none := h.inv.lamBox 0 k (by omega) hn
  have hsz : sw.heap.size = w.heap.size := by rw [hsw]; simp
  have hb : sw.heap[b]? = some (.cells cells e fz) := by rw [hsw]; simp [hblt]
  have hob : ∀ x, x ≠ b → sw.heap[x]? = w.heap[x]? := fun x hx => by rw [hsw]; simp [Ne.symm hx]
  let G' : Gh := { G with lam := fun l t => if l = 0 ∧ t = k then some (b, cells.size) else G.lam l t, phi := fun x => if x = b then some (.box 0 k) else G.phi x }
  have c : Chg (fun x => x = b) G w G' sw := by
    refine ⟨rfl, fun _ _ _ h => h, fun l t p hp => ?_, by omega, ho, ht, hp, fun x hx hne => ⟨hob x hne, fun _ => rfl, ?_⟩⟩
    · show (if _ then _ else _) = _
      rw [if_neg (by rintro ⟨rfl, rfl⟩; rw [hlam] at hp; cases hp)]; exact hp
    · show (if x = b then _ else _) = _
      rw [if_neg hne]
  have hGlam : G'.lam 0 k = some (b, cells.size) := by
    show (if _ then _ else _) = _
    rw [if_pos ⟨rfl, rfl⟩]
  refine ⟨G', ⟨by show G.lv = _; rw [h.inv.lv, hlen], by rw [hlen]; exact h2, fun x i v hv => ?_, fun l t cs' hg => ?_, fun l t hl hg => ?_, fun l t p hl => ?_, fun x hx => ?_⟩, by rw [hlen]; exact h.lvl, h.two, by rw [put_size]; exact h.size, by rw [put_defers]; exact h.defers,
    put_slots h.size hd (fun _ => hr G' c.gle h.inv.lv hGlam) (fun t => (h.slots t).mono c.gle) l,
    put_claims h.size hd (fun t _ => Claims.none hc) (fun t _ => ?_),
    c.ext' h.ext (fun x hx hno hf => ?_) (fun x l t hl h1 => ?_), h.fresh0, fun x o hx => ?_⟩
  · have hne : x ≠ b := by rintro rfl; have h1 : G.K x i = some v := hv; rw [hK] at h1; cases h1
    rw [cell_same (hob x hne)]; exact h.inv.kh x i v hv
  · rw [hm'] at hg
    by_cases hlt : l = 0 ∧ t = k
    · obtain ⟨rfl, rfl⟩ := hlt
      simp only [and_self, if_true, Option.some.injEq] at hg
      subst hg
      refine ⟨fun _ _ => ⟨⟨b, cells, e, fz, hGlam, if_pos rfl, ⟨hb, hfz⟩, hcl, (RepL.toS (G := G') hcr), hK, fun i sz xs v hci _ => ?_⟩, fun c hc => ?_⟩, fun h1 => by cases h1⟩
      · exact absurd rfl (okc_own (hok _ (List.mem_of_getElem? hci)) sz xs)
      · have := okc_new (hok c hc)
        simp only [newCell, Bool.and_eq_true] at this
        exact this.1
    · rw [if_neg hlt] at hg
      refine c.box h.inv.lamL (h.inv.mem l t cs' hg) (fun x hx _ hf => ?_)
      subst hf
      rcases hx with hx | ⟨i, hx⟩
      · rw [hphi] at hx; cases hx
      · rw [hphi] at hx; cases hx
  · rw [hm'] at hg
    split at hg
    · cases hg
    · rename_i hne
      show (if _ then _ else _) = _
      rw [if_neg hne]
      exact h.inv.lamBox l t (by rw [← hlen]; exact hl) hg
  · replace hl : (if l = 0 ∧ t = k then some (b, cells.size) else G.lam l t) = some p := hl
    rw [hsz]
    split at hl
    · cases hl; exact hblt
    · exact h.inv.lamL l t p hl
  · rw [hsz]
    by_cases hx' : x = b
    · subst hx'; exact hblt
    · refine h.inv.phiL x (fun h0 => hx ?_)
      show (if x = b then _ else _) = _
      rw [if_neg hx']; exact h0
  · by_cases htn : t = n0
    · subst htn
      exact Claims.none (stripTakes_taken hl)
    · exact c.claims (stripTakes_claims (h.own t)) (fun x i hx _ hf => by
        subst hf
        rw [hphi] at hx; cases hx; exact htn rfl)
  · subst hf
    obtain ⟨_, _, e3⟩ := h.ext.blk x hx hno
    have := h.fresh0 x _ (e3.symm.trans hphi)
    exact absurd this (Nat.lt_irrefl L)
  · by_cases hx' : x = b
    · subst hx'
      rw [hphi] at h1; cases h1
    · exact ⟨t, by show (if x = b then _ else _) = _; rw [if_neg hx']; exact h1⟩
  · replace hx : (if x = b then some (.box 0 k) else G.phi x) = some o := hx
    split at hx
    · cases hx; trivial
    · exact h.fresh x o hx

theorem apps_of (h : FInv G0 w0 L N G a s w) {t e : TypeId} {i : TypeInfo} {sz : Nat} {v : Value} {ys : List V} {own : Bool} (hu : P.underlying t = some (.slice e)) (h2 : i.size = sz) (hy : SRep G v (.list sz ys own)) :
    ∃ vs, Apps P w t i.size ys.length v vs ∧ (∀ q ∈ ys, q.cells.length = sz) ∧ (∀ c ∈ flat ys, okc c = true) ∧ RepL G.K vs (flat ys) := by
  rcases hy.list_inv with ⟨rfl, base, cap, hv, _⟩ | ⟨b, off, cap, vs, hv, hyc, hysz, hyok, hyK, hyr⟩
  · refine ⟨[], ⟨.inl ⟨e, hu⟩, fun w' => by rw [hv]; rfl, fun w' _ => ?_, by simp, by simp⟩, by simp, by simp [flat], by simp [flat]; exact .nil⟩
    rw [hv]
    cases base <;> simp [Builtin.firstCells, loadCells, loadCellsFrom]
  · have hvl : vs.length = ys.length * i.size := by rw [h2, hyr.length, flat_length hysz]
    refine ⟨vs, ⟨.inl ⟨e, hu⟩, fun w' => by rw [hv]; rfl, fun w' hw' => ?_, hvl, RepL.one hyr hyok⟩, hysz, hyok, hyr⟩
    rw [hv]
    refine run_firstCells_some w' i.size ys.length _ _ _ vs hvl (fun j u hu' => ?_)
    have := h.inv.kh _ _ _ (hyK j u hu')
    rw [addr_add]
    simpa [World.cell?, hw'] using this

theorem okc_rep {G : Gh} : ∀ {vs : List Value} {xs : List V}, SRepL G vs xs → (∀ c ∈ xs, okc c = true) → RepL G.K vs xs
  | _, _, .nil, _ => .nil
  | _, _, .cons r rs, h => .cons (r.toRep (okc_local (h _ (by simp)))) (okc_rep rs fun c hc => h c (by simp [hc]))

theorem appb_sound {o : Oper} {c : Call} {x y : Operand} {t e : TypeId} {i : TypeInfo} {z : Value} {sz bytes : Nat} (hop : o.op = .call c) (hc : c.callee = .builtin .append) (ha : c.args = #[x, y]) (hat : c.argTypes = #[t, t])
    (ht : P.underlying t = some (.slice e)) (hi : P.info? e = some i) (hsz : i.size = sz) (hby : i.bytes = bytes) (hz : i.zero = some z) (hzs : z.cells.size = sz)
    (h : FInv G0 w0 L N G a s w) {d : Option Nat} (hd : ∀ t, d = some t → t < N) {args : List AArg} (hargs : okArgs [x, y] args = true) {r : V} {m : Mem} (hr : rAppb sz bytes (args.map (readArg s.env)) s.mem = some (r, m)) (l : List AArg) (hl0 : l = args) :
    ∃ G' cv w', (execOp a.eval o).run P w = .ok (.value cv) w' ∧ FInv G0 w0 L N G' (a.put d cv) { env := putO (stripTakes s.env l) d r, mem := m } w' := by
  obtain ⟨ar, br, rfl, ka, kb⟩ := okArgs_two hargs
  have htake : ∀ n, ar = .k n → .k n ∈ l := fun n hn => by rw [hl0, hn]; simp
  have hx := okArg_sound h.slots ka
  have hy := okArg_sound h.slots kb
  have run : ∀ {cv : Value} {w' : World}, (Builtin.append_ #[t, t] o.type #[a.eval x, a.eval y]).run P w = .ok cv w' → (execOp a.eval o).run P w = .ok (.value cv) w' := by
    intro cv w' hr
    unfold execOp
    rw [hop]
    simp [resolve, hc, ha, hat, invoke, builtin, hr]
  have hmax : (140737488355328 : Nat) ≤ maxLen := by unfold maxLen; omega
  subst hsz hby
  -- what grows is a new row
  have grow : ∀ {s1 : St} (h1 : FInv G0 w0 L N G a s1 w) (he : s1.env = s.env) (base : Option Addr) (cap n : Nat) (olds vs : List Value) (cs ys : List V) {k : Nat} {m' : Mem}, a.eval x = .slice base n cap → olds.length = n * i.size →
      (∀ w', w'.heap = w.heap → (Builtin.firstCells i.size n (.slice base n cap)).run P w' = .ok olds.toArray w') → cap < n + ys.length → Apps P w t i.size ys.length (a.eval y) vs → RepL G.K olds cs → (∀ c ∈ cs, okc c = true) → RepL G.K vs (flat ys) → (∀ c ∈ flat ys, okc c = true) →
      appbFits i.size i.bytes n ys.length = true → mnew 0 (cs ++ flat ys) s1.mem = some (k, m') →
      ∃ G' cv w', (execOp a.eval o).run P w = .ok (.value cv) w' ∧ FInv G0 w0 L N G' (a.put d cv) { env := putO (stripTakes s.env l) d (.slc 0 k 0 i.size (n + ys.length)), mem := m' } w' := by
    intro s1 h1 he base cap n olds vs cs ys k m' hv hol ho hlt hap r1 o1 r2 o2 hfit hnew
    simp only [appbFits, Bool.and_eq_true, decide_eq_true_eq] at hfit
    obtain ⟨⟨f1, f2⟩, f3⟩ := hfit
    have hvl := hap.size
    have hrr := run (by rw [hv]; exact run_app_grow ht hi hz ho hlt (by omega) (growslice_fits (by omega) f2) hap)
    have h' := h1.ready (w' := w.drew) rfl rfl rfl rfl
    have hge := grownCap_ge w (n + ys.length) cap e
    have hle := grownCap_le_maxLen w (n + ys.length) cap e (by omega)
    obtain ⟨g1, g2, g3, g4⟩ := mnew_spec hnew
    have hsize : (olds.toArray ++ vs.toArray ++ Builtin.zeroCells z.cells (grownCap w (n + ys.length) cap e - (n + ys.length))).size = grownCap w (n + ys.length) cap e * i.size := by
      simp only [Array.size_append, List.size_toArray, size_zeroCells, hzs, hvl, hol]; rw [← Nat.add_mul, ← Nat.add_mul]; congr 1; omega
    have hcl : (cs ++ flat ys).length = olds.length + vs.length := by rw [List.length_append, r1.length, r2.length]
    have htk : (olds.toArray ++ vs.toArray ++ Builtin.zeroCells z.cells (grownCap w (n + ys.length) cap e - (n + ys.length))).toList.take (cs ++ flat ys).length = olds ++ vs := by
      rw [hcl]
      simp only [Array.toList_append]
      rw [List.take_left' (by simp)]
    obtain ⟨G', hG⟩ := h'.putNew (l0 := 0) (k := k) (n := (olds.toArray ++ vs.toArray ++ Builtin.zeroCells z.cells (grownCap w (n + ys.length) cap e - (n + ys.length))).size) (O := .cells (olds.toArray ++ vs.toArray ++ Builtin.zeroCells z.cells (grownCap w (n + ys.length) cap e - (n + ys.length))) e) (cs := cs ++ flat ys) (m' := m') g4 g2 g1 g3
      (fun G' hG hlam hphi hK => by
        refine cells_new0 (by omega) hlam hphi hK ?_ ?_ ?_
        · rw [hcl, hsize, hol, hvl, ← Nat.add_mul]; exact Nat.mul_le_mul_right _ hge
        · rw [htk]
          exact RepL.toS (G := G') ((r1.append r2).mono hG.K)
        · rw [List.all_eq_true]
          intro c hc
          exact okc_new ((List.mem_append.1 hc).elim (o1 c) (o2 c)))
      (d := d) hd (cv := .slice (some ⟨w.drew.heap.size, 0, none⟩) (n + ys.length) (grownCap w (n + ys.length) cap e)) (r := .slc 0 k 0 i.size (n + ys.length))
      (fun G' hG hlv hlam => .slc 0 k 0 i.size (n + ys.length) _ _ 0 _ (by rw [hlv]; exact g1) (by omega) hlam ⟨hge, hle⟩ (.inr ⟨rfl, by rw [hsize]; omega⟩)) (noc_sound rfl) l
    rw [he] at hG
    exact ⟨G', _, _, hrr, hG⟩
  unfold rAppb at hr
  split at hr
  · rename_i m0 l1 t0 off sz1 n sz2 ys own heq
    simp only [List.map_cons, List.map_nil, List.cons.injEq, and_true] at heq
    obtain ⟨he1, he2⟩ := heq
    rw [he1] at hx
    rw [he2] at hy
    obtain ⟨cs, hm, hr2⟩ := bind_some_iff.1 hr
    clear hr
    split at hr2
    case isFalse => cases hr2
    · rename_i hh
      obtain ⟨rfl, rfl, rfl, rfl, hne, hyne, hcl, hok, hfit⟩ := hh
      obtain ⟨⟨k, m'⟩, h1, h2⟩ := Option.map_eq_some_iff.1 hr2
      injection h2 with e1 e2
      subst e1 e2
      obtain ⟨vs, hap, q1, q2, q3⟩ := apps_of h ht rfl hy
      have hok' : ∀ c ∈ cs, okc c = true := by simpa using hok
      obtain ⟨b, nn, off', cap, ⟨_, hl1, hlam⟩, ⟨hc1, hc2⟩, hoo, hpe⟩ := hx.slc_inv
      obtain ⟨⟨b', cur, e', fz, c1, c2, c3, c4, c5, c6, c7⟩, c8⟩ := (h.inv.mem 0 t0 cs hm).1 (by omega) hne
      rw [hlam] at c1
      cases c1
      have hn0 : 0 < n := by
        rcases Nat.eq_zero_or_pos n with rfl | h0
        · simp at hcl; exact absurd hcl hne
        · exact h0
      obtain ⟨rfl, hcs⟩ : off' = 0 ∧ 0 + cap * i.size = cur.size := by
        rcases hoo with rfl | hoo
        · omega
        · exact hoo
      rw [Nat.zero_add] at hcs
      have r1 : RepL G.K (cur.toList.take cs.length) cs := okc_rep c5 hok'
      have hk := h.kill (by omega) hm
      have hol : (cur.toList.take cs.length).length = n * i.size := by
        have e3 : cur.toList.length = cur.size := Array.length_toList
        rw [List.length_take]; omega
      by_cases hroom : n + ys.length ≤ cap
      · have hvl := hap.size
        have hfit2 : n * i.size + vs.length ≤ cur.size := by rw [hvl, ← hcs, ← Nat.add_mul]; exact Nat.mul_le_mul_right _ hroom
        have hrr := run (by rw [hpe]; exact run_app_room ht hi c3.1 c3.2 hroom hfit2 hap)
        have hcells : (cur.toList.take (n * i.size) ++ vs ++ cur.toList.drop (n * i.size + vs.length)).toArray.size = cur.size := by
          simp only [List.size_toArray, List.length_append, List.length_take, List.length_drop, Array.length_toList]; omega
        obtain ⟨g1, g2, g3, g4⟩ := mnew_spec h1
        have hdead : mget (mput s.mem 0 t0 []) 0 t0 = some [] := by rw [mget_mput _ _ _ _ _ _ (mget_lt hm)]; simp
        have hfl : (flat ys).length = vs.length := q3.length.symm
        obtain ⟨G', hG⟩ := hk.putRebox (t0 := t0) (k := k) (b := b) (cur := cur) (cells := (cur.toList.take (n * i.size) ++ vs ++ cur.toList.drop (n * i.size + vs.length)).toArray) (e := e') (fz := fz) (cs := cs ++ flat ys) (m' := m')
          (sw := w.setRow b (cur.toList.take (n * i.size) ++ vs ++ cur.toList.drop (n * i.size + vs.length)).toArray) hdead c2 c6 c3.1 (by rw [hcells]; exact c3.2) g4 g2 g3 (setRow_eq c3.1) rfl rfl rfl
          (by rw [hcells, List.length_append, hcl, hfl]; exact hfit2)
          (by
            have : (cur.toList.take (n * i.size) ++ vs ++ cur.toList.drop (n * i.size + vs.length)).toArray.toList.take (cs ++ flat ys).length = cur.toList.take cs.length ++ vs := by
              rw [List.length_append, hfl, hcl]
              simp only
              rw [List.take_left' (by simp; omega)]
            rw [this]
            exact r1.append q3)
          (fun c hc => (List.mem_append.1 hc).elim (hok' c) (q2 c)) (d := d) hd (cv := .slice (some ⟨b, 0, none⟩) (n + ys.length) cap) (r := .slc 0 k 0 i.size (n + ys.length))
          (fun G' hG hlv hlam => .slc 0 k 0 i.size (n + ys.length) _ _ 0 _ (by rw [hlv]; exact g1) (by omega) hlam ⟨hroom, hc2⟩ (.inr ⟨rfl, by rw [hcells]; omega⟩)) (noc_sound rfl) l
        exact ⟨G', _, _, hrr, hG⟩
      · refine grow hk rfl (some ⟨b, 0, none⟩) cap n (cur.toList.take cs.length) vs cs ys hpe hol (fun w' hw' => ?_) (by omega) hap r1 hok' q3 q2 hfit h1
        refine run_firstCells_some w' i.size n _ _ _ _ hol (fun j u hu => ?_)
        rw [addr_add, Nat.zero_add]
        have h3 : w.heap[b]? = some (.cells cur e' fz) := c3.1
        rw [List.getElem?_take] at hu
        split at hu
        · simp only [World.cell?, hw', h3]
          simpa using hu
        · cases hu
  · rename_i m0 sz1 sz2 ys own heq
    simp only [List.map_cons, List.map_nil, List.cons.injEq, and_true] at heq
    obtain ⟨he1, he2⟩ := heq
    rw [he1] at hx
    rw [he2] at hy
    split at hr
    · rename_i hh
      obtain ⟨rfl, rfl, hyne, hfit⟩ := hh
      obtain ⟨⟨k, m'⟩, h1, h2⟩ := Option.map_eq_some_iff.1 hr
      injection h2 with e1 e2
      subst e1 e2
      obtain ⟨vs, hap, q1, q2, q3⟩ := apps_of h ht rfl hy
      have hyl : 0 < ys.length := by cases ys with | nil => exact absurd rfl hyne | cons _ _ => simp
      have := grow h rfl none 0 0 [] vs [] ys hx.nils_inv (by simp) (fun w' _ => by simp [Builtin.firstCells, loadCells, loadCellsFrom]) (by omega) hap .nil (by simp) q3 q2 hfit h1
      rw [Nat.zero_add] at this
      exact this
    · cases hr
  · rename_i m0 sz1 sz2 ys own heq
    simp only [List.map_cons, List.map_nil, List.cons.injEq, and_true] at heq
    obtain ⟨he1, he2⟩ := heq
    rw [he2] at hy
    split at hr
    · rename_i hh
      obtain ⟨rfl, rfl, hyne, hfit⟩ := hh
      obtain ⟨⟨k, m'⟩, h1, h2⟩ := Option.map_eq_some_iff.1 hr
      injection h2 with e1 e2
      subst e1 e2
      obtain ⟨vs, hap, q1, q2, q3⟩ := apps_of h ht rfl hy
      have hyl : 0 < ys.length := by cases ys with | nil => exact absurd rfl hyne | cons _ _ => simp
      have grow0 : ∀ (base : Option Addr) (cap : Nat), a.eval x = .slice base 0 cap → cap < ys.length → ∃ G' cv w', (execOp a.eval o).run P w = .ok (.value cv) w' ∧ FInv G0 w0 L N G' (a.put d cv) { env := putO (stripTakes s.env l) d (.slc 0 k 0 i.size ys.length), mem := m' } w' := by
        intro base cap hv hlt
        have := grow h rfl base cap 0 [] vs [] ys hv (by simp) (fun w' _ => by cases base <;> simp [Builtin.firstCells, loadCells, loadCellsFrom]) (by omega) hap .nil (by simp) q3 q2 hfit h1
        rw [Nat.zero_add] at this
        exact this
      rcases owned_arg ka he1 with ⟨n0, rfl, hgx, hex⟩ | ⟨_, hex⟩
      · have hown := h.own n0
        rw [hgx] at hown
        rcases hown 0 i.size [] rfl with ⟨_, base, hv⟩ | ⟨g, cap, cur, e', fz, hv, hphi, hheap, hfz, hcs, hle, hcm, hKn⟩
        · exact grow0 base 0 (hex.trans hv) hyl
        · have hsl := h.slots n0
          rw [hgx] at hsl
          have hv' : a.eval x = .slice (some ⟨g, 0, none⟩) 0 cap := by
            rcases hv with hv | ⟨hv, _⟩
            · exact hex.trans hv
            · exfalso
              have hv2 : a.tmps.getD n0 Go.undef = .pointer (some ⟨g, 0, none⟩) := hv
              rw [hv2] at hsl
              rcases hsl.list_inv with ⟨_, _, _, h3, _⟩ | ⟨_, _, _, _, h3, _⟩ <;> cases h3
          by_cases hroom : ys.length ≤ cap
          · have hvl := hap.size
            have hfit2 : 0 * i.size + vs.length ≤ cur.size := by rw [hvl, hcs, Nat.zero_mul, Nat.zero_add]; exact Nat.mul_le_mul_right _ hroom
            have hrr := run (by rw [hv']; exact run_app_room ht hi hheap hfz (by omega) hfit2 hap)
            have hcells : (cur.toList.take (0 * i.size) ++ vs ++ cur.toList.drop (0 * i.size + vs.length)).toArray.size = cur.size := by
              simp only [List.size_toArray, List.length_append, List.length_take, List.length_drop, Array.length_toList]; omega
            obtain ⟨g1, g2, g3, g4⟩ := mnew_spec h1
            have hfl : (flat ys).length = vs.length := q3.length.symm
            obtain ⟨G', hG⟩ := h.putReboxO (n0 := n0) (k := k) (b := g) (cur := cur) (cells := (cur.toList.take (0 * i.size) ++ vs ++ cur.toList.drop (0 * i.size + vs.length)).toArray) (e := e') (fz := fz) (cs := flat ys) (m' := m')
              (sw := w.setRow g (cur.toList.take (0 * i.size) ++ vs ++ cur.toList.drop (0 * i.size + vs.length)).toArray) hphi (fun o => hKn o (by simp)) hheap (by rw [hcells]; exact hfz) g4 g2 g3 (setRow_eq hheap) rfl rfl rfl
              (by rw [hcells, hfl]; omega)
              (by
                have : (cur.toList.take (0 * i.size) ++ vs ++ cur.toList.drop (0 * i.size + vs.length)).toArray.toList.take (flat ys).length = vs := by
                  rw [hfl]
                  simp
                rw [this]
                exact q3)
              q2 (d := d) hd (cv := .slice (some ⟨g, 0, none⟩) (0 + ys.length) cap) (r := .slc 0 k 0 i.size ys.length)
              (fun G' hG hlv hlam => by
                rw [Nat.zero_add]
                exact .slc 0 k 0 i.size ys.length _ _ 0 _ (by rw [hlv]; exact g1) (by omega) hlam ⟨hroom, hcm⟩ (.inr ⟨rfl, by rw [hcells]; omega⟩)) (noc_sound rfl) l (htake n0 rfl)
            exact ⟨G', _, _, hrr, hG⟩
          · exact grow0 _ cap hv' (by omega)
      · exact grow0 none 0 hex hyl
    · cases hr
  · cases hr

theorem arow_sound {o : Oper} {t e : TypeId} {len : Nat} {parts : Array (Nat × Operand)} {i : TypeInfo} {z : Value} {sz n : Nat} {zero : List V} {ps : List (Nat × Nat)} {args : List AArg} {r : V} {m : Mem} (hop : o.op = .buildSlice t len parts)
    (ht : P.underlying t = some (.slice e)) (hi : P.info? e = some i) (hsz : i.size = sz) (hpos : 0 < sz) (hln : len = n) (hsm : n * sz ≤ 16777216) (hz : i.zero = some z)
    (hzr : repCs ((Array.range (len * i.size)).map (z.cells[· % z.cells.size]!)).toList zero = true) (hzl : zero.length = n * sz) (hps : (parts.toList.map fun p => (p.1 * sz, sz)) = ps)
    (h : FInv G0 w0 L N G a s w) {d : Option Nat} (hd : ∀ t, d = some t → t < N) (ha : okArgs (parts.toList.map (·.2)) args = true) (hr : rArow sz n zero ps (args.map (readArg s.env)) s.mem = some (r, m)) (l : List AArg) :
    ∃ G' cv w', (execOp a.eval o).run P w = .ok (.value cv) w' ∧ FInv G0 w0 L N G' (a.put d cv) { env := putO (stripTakes s.env l) d r, mem := m } w' := by
  subst hsz hln
  unfold rArow at hr
  split at hr
  · rename_i hdat
    obtain ⟨cs, hf, hr⟩ := bind_some_iff.1 hr
    split at hr
    · obtain ⟨⟨k, m'⟩, h5, h6⟩ := Option.map_eq_some_iff.1 hr
      injection h6 with e1 e2
      subst e1 e2
      obtain ⟨hz1, hz2⟩ := repCs_sound (K := G.K) hzr
      have hargs := h.reads ha
      obtain ⟨cells, h1, h2, h3, h4⟩ := fill_rep (G := G) (fun j => some (j * i.size, i.size)) (parts.map fun (j, x) => (j, a.eval x)).toList ps (args.map (readArg s.env)) _ zero cs
        (by rw [Array.toList_map, List.map_map, ← hps, List.map_map]; rfl) (by rw [Array.toList_map, List.map_map]; rw [List.map_map] at hargs; exact hargs) hdat hz1 hz2 hf
      have hcl : cs.length = len * i.size := by rw [h4, hzl]
      have hcz : cells.size = len * i.size := by have := h2.length; simp only [Array.length_toList] at this; omega
      have hrun : (execOp a.eval o).run P w = .ok (.value (.slice (some ⟨w.heap.size, 0, none⟩) len len)) (w.alloc (.cells cells e)) := by
        unfold execOp
        rw [hop]
        exact vrun (run_buildSlice' ht hi hz (by omega) h1)
      obtain ⟨g1, g2, g3, g4⟩ := mnew_spec h5
      have hlm : len ≤ maxLen := by unfold maxLen; have := Nat.le_mul_of_pos_right len hpos; omega
      obtain ⟨G', hG⟩ := h.putNew (l0 := 0) (k := k) (n := cells.size) (O := .cells cells e) (cs := cs) (m' := m') g4 g2 g1 g3
        (fun G' hG hlam hphi hK => by
          refine cells_new0 (by omega) hlam hphi hK (by omega) ?_ ?_
          · rw [List.take_of_length_le (by simp; omega)]
            exact RepL.toS (G := G') (h2.mono hG.K)
          · rw [List.all_eq_true]
            exact fun c hc => okc_new (h3 c hc))
        (d := d) hd (cv := .slice (some ⟨w.heap.size, 0, none⟩) len len) (r := .slc 0 k 0 i.size len)
        (fun G' hG hlv hlam => .slc 0 k 0 i.size len _ _ 0 _ (by rw [hlv]; exact g1) (by omega) hlam ⟨Nat.le_refl _, hlm⟩ (.inr ⟨rfl, by omega⟩)) (noc_sound rfl) l
      exact ⟨G', _, _, hrun, hG⟩
    · cases hr
  · cases hr

/-- A row of the arena's becomes known as it stands: nobody writes it from then on. -/
theorem FInv.frzRow (h : FInv G0 w0 L N G a s w) {cv : Value} {t sz n : Nat} {cs : List V} (hr : SRep G cv (.slc 0 t 0 sz n)) (hm : mget s.mem 0 t = some cs) (hsz : 0 < sz) (hne : cs ≠ []) (hcl : cs.length = n * sz) (hok : ∀ c ∈ cs, okc c = true) :
    ∃ G', FInv G0 w0 L N G' a { s with mem := mput s.mem 0 t [] } w ∧ GLe G G' ∧ SRep G' cv (.list sz (chunk sz n cs) false) := by
  have h2 := h.inv.two
  obtain ⟨b, nn, off', cap, ⟨_, hl1, hlam⟩, ⟨hc1, hc2⟩, hoo, rfl⟩ := hr.slc_inv
  obtain ⟨⟨b', cur, e', fz, c1, c2, c3, c4, c5, c6, c7⟩, c8⟩ := (h.inv.mem 0 t cs hm).1 (by omega) hne
  rw [hlam] at c1
  cases c1
  have hn0 : 0 < n := by
    rcases Nat.eq_zero_or_pos n with rfl | h0
    · simp at hcl; exact absurd hcl hne
    · exact h0
  obtain ⟨rfl, hcs⟩ : off' = 0 ∧ 0 + cap * sz = cur.size := by
    rcases hoo with rfl | hoo
    · omega
    · exact hoo
  obtain ⟨hfl, hel⟩ := chunk_flat hsz n cs hcl hok
  have hk := h.kill (by omega) hm
  have hrep : RepL G.K (cur.toList.take (n * sz)) cs := by rw [← hcl]; exact okc_rep c5 hok
  let K2 : Know := fun x o => if x = b then (if o < n * sz then cur[o]? else none) else G.K x o
  let G2 : Gh := { G with K := K2 }
  have hK12 : KLe G.K K2 := fun x o v hv => by
    show (if x = b then _ else G.K x o) = some v
    rw [if_neg (by rintro rfl; rw [c6] at hv; cases hv)]; exact hv
  have c : Chg (fun x => x = b) G w G2 w := by
    refine ⟨rfl, hK12, fun _ _ _ h => h, Nat.le_refl _, rfl, rfl, rfl, fun x hx hne => ⟨rfl, fun o => ?_, rfl⟩⟩
    show (if x = b then _ else G.K x o) = _
    rw [if_neg hne]
  refine ⟨G2, ⟨⟨hk.inv.lv, hk.inv.two, fun x o v hv => ?_, fun l k cs' hg => ?_, hk.inv.lamBox, hk.inv.lamL, hk.inv.phiL⟩, hk.lvl, hk.two, hk.size, hk.defers, fun k => (hk.slots k).mono c.gle,
    fun k => c.claims (hk.own k) (fun x i hx _ hf => by subst hf; rw [c2] at hx; cases hx), c.ext' hk.ext (fun x hx hno hf => ?_) (fun x l k _ h1 => ⟨k, h1⟩), hk.fresh0, hk.fresh⟩, c.gle, ?_⟩
  · replace hv : (if x = b then (if o < n * sz then cur[o]? else none) else G.K x o) = some v := hv
    split at hv
    · rename_i hxb
      subst hxb
      split at hv
      · rw [cell_of_heap c3.1]; exact hv
      · cases hv
    · exact h.inv.kh x o v hv
  · have hb0 := hk.inv.mem l k cs' hg
    by_cases hlt : l = 0 ∧ k = t
    · obtain ⟨rfl, rfl⟩ := hlt
      replace hg : mget (mput s.mem 0 k []) 0 k = some cs' := hg
      rw [mget_mput _ _ _ _ _ _ (mget_lt hm)] at hg
      simp at hg
      subst hg
      exact ⟨fun _ h3 => absurd rfl h3, fun h3 => by cases h3⟩
    · exact c.box h.inv.lamL hb0 (fun x hx _ hf => by
        subst hf
        rcases hx with hx | ⟨i, hx⟩
        · rw [c2] at hx; cases hx; exact hlt ⟨rfl, rfl⟩
        · rw [c2] at hx; cases hx)
  · subst hf
    obtain ⟨_, _, e3⟩ := h.ext.blk x hx hno
    have := hno _ (e3.symm.trans c2)
    cases this
  · have hl := chunk_length sz n cs
    have := Rep.list (K := K2) b 0 cap sz (chunk sz n cs) false (cur.toList.take (n * sz)) (by omega) hel (by rw [hfl]; exact hok) (fun i v hv => by
      show (if b = b then (if 0 + i < n * sz then cur[0 + i]? else none) else _) = _
      rw [if_pos rfl, Nat.zero_add]
      rw [List.getElem?_take] at hv
      split at hv
      · rename_i hlt
        rw [if_pos hlt]; simpa using hv
      · cases hv) (by rw [hfl]; exact hrep.mono hK12)
    rw [hl] at this
    exact .data this

theorem FInv.frzCells : ∀ (cs : List V) {vs : List Value} {G : Gh} {s : St} {ds : List V} {m' : Mem}, FInv G0 w0 L N G a s w → SRepL G vs cs → frzCells cs s.mem = some (ds, m') →
    ∃ G', FInv G0 w0 L N G' a { s with mem := m' } w ∧ GLe G G' ∧ SRepL G' vs ds ∧ ∀ d ∈ ds, okc d = true
  | [], vs, G, s, ds, m', h, hr, hf => by
    cases hr
    simp only [Ev.frzCells, Option.some.injEq, Prod.mk.injEq] at hf
    obtain ⟨rfl, rfl⟩ := hf
    exact ⟨G, h, ⟨Nat.le_refl _, fun _ _ _ h => h, fun _ _ _ _ h => h⟩, .nil, by simp⟩
  | c :: r, vs, G, s, ds, m', h, hr, hf => by
    cases hr with | cons hc hr =>
    rename_i v vs
    simp only [Ev.frzCells] at hf
    obtain ⟨⟨c', m1⟩, h1, h2⟩ := bind_some_iff.1 hf
    obtain ⟨⟨r', m2⟩, h3, h4⟩ := Option.map_eq_some_iff.1 h2
    injection h4 with e1 e2
    subst e1 e2
    obtain ⟨G1, hF1, g1, hc', ho⟩ : ∃ G1, FInv G0 w0 L N G1 a { s with mem := m1 } w ∧ GLe G G1 ∧ SRep G1 v c' ∧ okc c' = true := by
      unfold frzCell at h1
      split at h1
      · obtain ⟨cs, hm, h5⟩ := bind_some_iff.1 h1
        split at h5
        · rename_i hh
          obtain ⟨rfl, rfl, q1, q2, q3, q4⟩ := hh
          injection h5 with h5
          injection h5 with e1 e2
          subst e1 e2
          obtain ⟨G1, k1, k2, k3⟩ := h.frzRow hc hm q1 q2 q3 (by simpa using q4)
          exact ⟨G1, k1, k2, k3, rfl⟩
        · cases h5
      · split at h1
        · rename_i hok
          injection h1 with h1
          injection h1 with e1 e2
          subst e1 e2
          exact ⟨G, h, ⟨Nat.le_refl _, fun _ _ _ h => h, fun _ _ _ _ h => h⟩, hc.strip1, hok⟩
        · cases h1
    obtain ⟨G2, hF2, g2, hr', ho'⟩ := FInv.frzCells r hF1 (hr.mono g1) h3
    exact ⟨G2, hF2, ⟨Nat.le_trans g1.lv g2.lv, fun b o v hv => g2.K _ _ _ (g1.K b o v hv), fun l t p hl hp => g2.lam l t p (Nat.lt_of_lt_of_le hl g1.lv) (g1.lam l t p hl hp)⟩, .cons (hc'.mono g2) hr', by
      intro d hd
      rcases List.mem_cons.1 hd with rfl | hd
      · exact ho
      · exact ho' d hd⟩

theorem loadf_sound {o : Oper} {t : TypeId} {x : Operand} {i : TypeInfo} {d0 : TypeDesc} {n : Nat} (hop : o.op = .load t x) (hi : P.info? t = some i) (hd0 : P.underlying t = some d0) (hn : some n = aggN d0 i.size) (hnz : n ≠ 0)
    (h : FInv G0 w0 L N G a s w) {args : List AArg} (hk : okArgs [x] args = true) {d : Option Nat} (hd : ∀ t, d = some t → t < N) {r : V} {m : Mem} (hr : rLoadf n (args.map (readArg s.env)) s.mem = some (r, m)) (l : List AArg) :
    ∃ G' cv, (execOp a.eval o).run P w = .ok (.value cv) w ∧ FInv G0 w0 L N G' (a.put d cv) { env := putO (stripTakes s.env l) d r, mem := m } w := by
  obtain ⟨ar, rfl, ka⟩ := okArgs_one hk
  have hp := okArg_sound h.slots ka
  unfold rLoadf at hr
  split at hr
  · rename_i m0 l1 k off he
    simp only [List.map_cons, List.map_nil, List.cons.injEq, and_true] at he
    rw [he] at hp
    obtain ⟨b, nn, ⟨hlt, hl1, hlam⟩, hpe⟩ := hp.ptr_inv
    obtain ⟨cs, hm, hr2⟩ := bind_some_iff.1 hr
    clear hr
    split at hr2
    · rename_i hlen
      obtain ⟨⟨ds, m'⟩, h1, h2⟩ := Option.map_eq_some_iff.1 hr2
      injection h2 with e1 e2
      subst e1 e2
      have hne : cs ≠ [] := by rintro rfl; simp at hlen; exact hnz hlen.symm
      obtain ⟨⟨b', cur, e, fz, c1, c2, c3, c4, c5, c6, c7⟩, c8⟩ := (h.inv.mem l1 k cs hm).1 hl1 hne
      rw [hlam] at c1
      cases c1
      obtain ⟨G', hF, hg, hrep, hok⟩ := FInv.frzCells _ h ((c5.drop off).take n) h1
      have hcell : ∀ (i : Nat) (u : Value), (((cur.toList.take cs.length).drop off).take n)[i]? = some u → w.cell? ⟨b, off + i, none⟩ = some u := by
        intro i u hu
        rw [List.getElem?_take] at hu
        split at hu
        · rw [List.getElem?_drop, List.getElem?_take] at hu
          split at hu
          · rw [cell_of_heap c3.1]; simpa using hu
          · cases hu
        · cases hu
      have hdl : ds.length = n := by
        have := hrep.length
        have h6 := ((c5.drop off).take n).length
        omega
      obtain ⟨cv, e1, e2⟩ := s_loadAt (P := P) (G := G') (w := w) (n := some n) (r := .agg ds) hi hd0 hn hcell hrep (by
        simp only [loadV]
        rw [if_pos (by omega), List.take_of_length_le (by omega)]) (fun _ => hok)
      have hrun : (execOp a.eval o).run P w = .ok (.value cv) w := by unfold execOp; rw [hop]; rw [← hpe] at e1; exact vrun e1
      have := hF.putPure (d := d) hd e2 (noc_sound rfl) l
      exact ⟨G', cv, hrun, this⟩
    · cases hr2
  · cases hr

/-- What a call that was handed no memory leaves of a row of its arena. -/
theorem row_left (h : FInv G0 w0 L N G a s w) {G1 : Gh} {w1 : World} {cv : Value} {t sz n : Nat} {cs : List V} {m1 : Mem} (he : Ext 2 G.bare w G1 w1) (hi : Inv G1 w1 m1) (hr : SRep G1 cv (.slc 0 t 0 sz n)) (hm : mget m1 0 t = some cs)
    (hne : cs ≠ []) (hcl : cs.length = n * sz) (hok : ∀ c ∈ cs, okc c = true) :
    ∃ g cap cur e fz, cv = .slice (some ⟨g, 0, none⟩) n cap ∧ w.heap.size ≤ g ∧ w1.heap[g]? = some (.cells cur e fz) ∧ noFz fz cur.size ∧ cur.size = cap * sz ∧ n ≤ cap ∧ cap ≤ maxLen ∧ RepL G1.K (cur.toList.take (n * sz)) cs ∧ (∀ o, G1.K g o = none) ∧
      ∀ b, b < w.heap.size → w1.heap[b]? = w.heap[b]? ∧ (∀ o, G1.K b o = G.K b o) := by
  have hb : ∀ b, b < w.heap.size → w1.heap[b]? = w.heap[b]? ∧ (∀ o, G1.K b o = G.K b o) ∧ G1.phi b = none := fun b hb => by
    obtain ⟨e1, e2, e3⟩ := he.blk b hb (fun o ho => by cases ho)
    exact ⟨e1, e2, e3⟩
  obtain ⟨g, nn, off', cap, ⟨_, hl1, hlam⟩, ⟨hc1, hc2⟩, hoo, rfl⟩ := hr.slc_inv
  obtain ⟨⟨b', cur, e', fz, c1, c2, c3, c4, c5, c6, c7⟩, c8⟩ := (hi.mem 0 t cs hm).1 (by omega) hne
  rw [hlam] at c1
  cases c1
  have hn0 : 0 < n := by
    rcases Nat.eq_zero_or_pos n with rfl | h0
    · simp at hcl; exact absurd hcl hne
    · exact h0
  obtain ⟨rfl, hcs⟩ : off' = 0 ∧ 0 + cap * sz = cur.size := by
    rcases hoo with rfl | hoo
    · omega
    · exact hoo
  refine ⟨g, cap, cur, e', fz, rfl, ?_, c3.1, c3.2, by omega, hc1, hc2, by rw [← hcl]; exact okc_rep c5 hok, c6, fun b hb' => ⟨(hb b hb').1, (hb b hb').2.1⟩⟩
  rcases Nat.lt_or_ge g w.heap.size with hlt | hge
  · rw [(hb g hlt).2.2] at c2; cases c2
  · exact hge

/-- Through a call that was handed no memory, and whose row is from then on only read. -/
theorem FInv.calledRow (h : FInv G0 w0 L N G a s w) {G1 : Gh} {w1 : World} {cv : Value} {t sz n : Nat} {cs : List V} {m1 : Mem} {d : Nat} (hd : d < N) (he : Ext 2 G.bare w G1 w1) (hi : Inv G1 w1 m1) (hr : SRep G1 cv (.slc 0 t 0 sz n)) (hm : mget m1 0 t = some cs)
    (hsz : 0 < sz) (hne : cs ≠ []) (hcl : cs.length = n * sz) (hok : ∀ c ∈ cs, okc c = true) (l : List AArg) :
    ∃ G2, FInv G0 w0 L N G2 (a.put (some d) cv) { s with env := putO (stripTakes s.env l) (some d) (.list sz (chunk sz n cs) true) } w1 := by
  obtain ⟨g, cap, cur, e, fz, rfl, hg, hheap, hfz, hcs, hncap, hcm, hrep, hKg, hb⟩ := row_left h he hi hr hm hne hcl hok
  obtain ⟨hfl, hel⟩ := chunk_flat hsz n cs hcl hok
  let K2 : Know := fun b o => if b = g then (if o < n * sz then cur[o]? else none) else G1.K b o
  let G2 : Gh := { lv := G.lv, K := K2, lam := G.lam, phi := fun b => if b = g then some (.slot L d 0) else if b < w.heap.size then G.phi b else none }
  have hK12 : KLe G1.K K2 := fun b o v hv => by
    show (if b = g then _ else G1.K b o) = some v
    rw [if_neg (by rintro rfl; rw [hKg] at hv; cases hv)]; exact hv
  have hphi : ∀ b, b < w.heap.size → G2.phi b = G.phi b := fun b hb' => by
    show (if b = g then _ else _) = _
    rw [if_neg (by omega), if_pos hb']
  have c : Chg (fun _ => False) G w G2 w1 := by
    refine ⟨rfl, fun b o v hv => hK12 _ _ _ (he.K b o v hv), fun _ _ _ h => h, he.size, he.os, he.tape, he.output, fun b hlt _ => ⟨(hb b hlt).1, fun o => ?_, hphi b hlt⟩⟩
    show (if b = g then _ else G1.K b o) = _
    rw [if_neg (by omega)]; exact (hb b hlt).2 o
  have hres : SRep G2 (.slice (some ⟨g, 0, none⟩) n cap) (.list sz (chunk sz n cs) true) := by
    have hl := chunk_length sz n cs
    have := Rep.list (K := K2) g 0 cap sz (chunk sz n cs) true (cur.toList.take (n * sz)) (by omega) hel (by rw [hfl]; exact hok) (fun i v hv => by
      show (if g = g then (if 0 + i < n * sz then cur[0 + i]? else none) else _) = _
      rw [if_pos rfl, Nat.zero_add]
      rw [List.getElem?_take] at hv
      split at hv
      · rename_i hlt
        rw [if_pos hlt]; simpa using hv
      · cases hv) (by rw [hfl]; exact hrep.mono hK12)
    rw [hl] at this
    exact .data this
  have hgw : g < w1.heap.size := heap_lt hheap
  refine ⟨G2, ⟨h.inv.lv, h.inv.two, fun b o v hv => ?_, fun l t cs hm => c.box h.inv.lamL (h.inv.mem l t cs hm) (fun _ _ _ hf => hf), h.inv.lamBox, fun l t p hl => Nat.lt_of_lt_of_le (h.inv.lamL l t p hl) he.size, fun b hb' => ?_⟩,
    h.lvl, h.two, by rw [put_size]; exact h.size, by rw [put_defers]; exact h.defers, put_slots h.size (by rintro t ht; cases ht; exact hd) (fun _ => hres) (fun t => (h.slots t).mono c.gle) l,
    put_claims h.size (by rintro t ht; cases ht; exact hd) (fun t ht => ?_) (fun t _ => c.claims (stripTakes_claims (h.own t)) (fun _ _ _ _ hf => hf)), c.ext h.ext (fun _ _ _ hf => hf) (fun b l t _ _ h1 => ?_), h.fresh0, fun b o hb' => ?_⟩
  · replace hv : (if b = g then (if o < n * sz then cur[o]? else none) else G1.K b o) = some v := hv
    split at hv
    · rename_i hbg
      subst hbg
      split at hv
      · rw [cell_of_heap hheap]; exact hv
      · cases hv
    · exact hi.kh b o v hv
  · replace hb' : (if b = g then some (Own.slot L d 0) else if b < w.heap.size then G.phi b else none) ≠ none := hb'
    have := he.size
    split at hb'
    · rename_i hbg; subst hbg; exact hgw
    · split at hb'
      · omega
      · exact absurd rfl hb'
  · cases ht
    intro i sz' xs' hcl'
    cases i with
    | succ i => cases hcl'
    | zero =>
      cases hcl'
      refine .inr ⟨g, cap, cur, e, fz, .inl ?_, if_pos rfl, hheap, hfz, hcs, by rw [chunk_length]; exact hncap, hcm, fun o ho => ?_⟩
      · rw [chunk_length]; rfl
      · rw [chunk_length] at ho
        show (if g = g then (if o < n * sz then cur[o]? else none) else _) = _
        rw [if_pos rfl, if_neg (by omega)]
  · have := h.inv.phiL b (by rw [h1]; simp)
    rw [hphi b this]; exact h1
  · replace hb' : (if b = g then some (Own.slot L d 0) else if b < w.heap.size then G.phi b else none) = some o := hb'
    split at hb'
    · cases hb'; show L < L + 1; omega
    · split at hb'
      · exact h.fresh b o hb'
      · cases hb'

/-- The same, where the row goes on as one of the arena's. -/
theorem FInv.calledRowZ (h : FInv G0 w0 L N G a s w) {G1 : Gh} {w1 : World} {cv : Value} {t sz n k : Nat} {cs : List V} {m1 m' : Mem} {d : Option Nat} (hd : ∀ t, d = some t → t < N) (he : Ext 2 G.bare w G1 w1) (hi : Inv G1 w1 m1) (hr : SRep G1 cv (.slc 0 t 0 sz n)) (hm : mget m1 0 t = some cs)
    (hne : cs ≠ []) (hcl : cs.length = n * sz) (hok : ∀ c ∈ cs, okc c = true) (hnew : mnew 0 cs s.mem = some (k, m')) (l : List AArg) :
    ∃ G2, FInv G0 w0 L N G2 (a.put d cv) { env := putO (stripTakes s.env l) d (.slc 0 k 0 sz n), mem := m' } w1 := by
  obtain ⟨g, cap, cur, e, fz, rfl, hg, hheap, hfz, hcs, hncap, hcm, hrep, hKg, hb⟩ := row_left h he hi hr hm hne hcl hok
  obtain ⟨g1, g2, g3, g4⟩ := mnew_spec hnew
  have h2 := h.inv.two
  have hlam : G.lam 0 k = none := h.inv.lamBox 0 k g1 g3
  let G2 : Gh := { lv := G.lv, K := G1.K, lam := fun l t => if l = 0 ∧ t = k then some (g, cur.size) else G.lam l t, phi := fun b => if b = g then some (.box 0 k) else if b < w.heap.size then G.phi b else none }
  have hphi : ∀ b, b < w.heap.size → G2.phi b = G.phi b := fun b hb' => by
    show (if b = g then _ else _) = _
    rw [if_neg (by omega), if_pos hb']
  have c : Chg (fun _ => False) G w G2 w1 := by
    refine ⟨rfl, he.K, fun l t p hp => ?_, he.size, he.os, he.tape, he.output, fun b hlt _ => ⟨(hb b hlt).1, (hb b hlt).2, hphi b hlt⟩⟩
    show (if _ then _ else _) = _
    rw [if_neg (by rintro ⟨rfl, rfl⟩; rw [hlam] at hp; cases hp)]; exact hp
  have hglam : G2.lam 0 k = some (g, cur.size) := by
    show (if _ then _ else _) = _
    rw [if_pos ⟨rfl, rfl⟩]
  have hgw : g < w1.heap.size := heap_lt hheap
  have hres : SRep G2 (.slice (some ⟨g, 0, none⟩) n cap) (.slc 0 k 0 sz n) :=
    .slc 0 k 0 sz n g cur.size 0 cap (by show 0 < G.lv; rw [h.inv.lv]; omega) (by omega) hglam ⟨hncap, hcm⟩ (.inr ⟨rfl, by omega⟩)
  have hlc : cs.length ≤ cur.size := by rw [hcl, hcs]; exact Nat.mul_le_mul_right _ hncap
  refine ⟨G2, ⟨by show G.lv = _; rw [h.inv.lv, g2], by rw [g2]; exact h2, hi.kh, fun l t cs' hq => ?_, fun l t hl hq => ?_, fun l t p hl => ?_, fun b hb' => ?_⟩, by rw [g2]; exact h.lvl, h.two, by rw [put_size]; exact h.size, by rw [put_defers]; exact h.defers,
    put_slots h.size hd (fun _ => hres) (fun t => (h.slots t).mono c.gle) l, put_claims h.size hd (fun t _ => Claims.none (noc_sound rfl)) (fun t _ => c.claims (stripTakes_claims (h.own t)) (fun _ _ _ _ hf => hf)),
    c.ext h.ext (fun _ _ _ hf => hf) (fun b l t _ _ h1 => ?_), h.fresh0, fun b o hb' => ?_⟩
  · rw [g4] at hq
    by_cases hlt : l = 0 ∧ t = k
    · obtain ⟨rfl, rfl⟩ := hlt
      simp only [and_self, if_true, Option.some.injEq] at hq
      subst hq
      refine ⟨fun _ _ => ⟨⟨g, cur, e, fz, hglam, if_pos rfl, ⟨hheap, hfz⟩, hlc, RepL.toS (G := G2) (by rw [hcl]; exact hrep), hKg, fun i sz' xs' v hci _ => ?_⟩, fun c hc => ?_⟩, fun h1 => by cases h1⟩
      · exact absurd rfl (okc_own (hok _ (List.mem_of_getElem? hci)) sz' xs')
      · have := okc_new (hok c hc)
        simp only [newCell, Bool.and_eq_true] at this
        exact this.1
    · rw [if_neg hlt] at hq
      exact c.box h.inv.lamL (h.inv.mem l t cs' hq) (fun _ _ _ hf => hf)
  · rw [g4] at hq
    split at hq
    · cases hq
    · rename_i hne'
      show (if _ then _ else _) = _
      rw [if_neg hne']
      exact h.inv.lamBox l t (by rw [← g2]; exact hl) hq
  · replace hl : (if l = 0 ∧ t = k then some (g, cur.size) else G.lam l t) = some p := hl
    split at hl
    · cases hl; exact hgw
    · exact Nat.lt_of_lt_of_le (h.inv.lamL l t p hl) he.size
  · replace hb' : (if b = g then some (Own.box 0 k) else if b < w.heap.size then G.phi b else none) ≠ none := hb'
    have := he.size
    split at hb'
    · rename_i hbg; subst hbg; exact hgw
    · split at hb'
      · omega
      · exact absurd rfl hb'
  · have := h.inv.phiL b (by rw [h1]; simp)
    rw [hphi b this]; exact h1
  · replace hb' : (if b = g then some (Own.box 0 k) else if b < w.heap.size then G.phi b else none) = some o := hb'
    split at hb'
    · cases hb'; trivial
    · split at hb'
      · exact h.fresh b o hb'
      · cases hb'

/-- What follows the operation holds behind whatever the invariant allows. -/
theorem op_sound [Base] (hS : Sound P call) (hB : BaseOK G0 w0) {o : Oper} {ao : AOp} (hdst : ao.dst = o.dst) (hN : ∀ t, ao.dst = some t → t < N) (hD : needsDst ao.pr = true → ao.dst ≠ none) (hnoDst : (∃ kd, ao.pr = .mset kd) → ao.dst = none) (hnst : ∀ n, ao.pr ≠ .storec n)
    (hk : okPrim P o.op ao.args ao.pr = true) (h : FInv G0 w0 L N G a s w) {s' : St} (hx : ao.exec call s = some s') {next : Act → World → Prop} {Q : Exit → Act → World → Prop}
    (hn : ∀ G' a' w', FInv G0 w0 L N G' a' s' w' → next a' w') : o.wp P a w next Q := by
  unfold AOp.exec at hx
  obtain ⟨⟨r, m⟩, hrun, rfl⟩ := Option.map_eq_some_iff.1 hx
  have value : ∀ {cv : Value} {w' : World}, (execOp a.eval o).run P w = .ok (.value cv) w' → next (a.put ao.dst cv) w' → o.wp P a w next Q := by
    intro cv w' h1 h2
    unfold Oper.wp
    rw [h1, Oper.upon_value, ← hdst]
    exact h2
  have plain : ao.pr.plain = true → runP ao.pr (ao.args.map (readArg s.env)) = some r → m = s.mem → o.wp P a w next Q := by
    intro hp h1 hm
    obtain ⟨cv, h2, h3, h4⟩ := plain_sound h.inv h.reads hp hk h1
    refine value h2 (hn G _ _ ?_)
    have := h.putPure hN h3 h4 ao.args
    rw [hm]; exact this
  have kind0 : ao.pr.kind = 0 → runP ao.pr (ao.args.map (readArg s.env)) = some r ∧ m = s.mem := by
    intro h0
    simp only [Prim.run, h0] at hrun
    obtain ⟨y, hy, h1⟩ := Option.map_eq_some_iff.1 hrun
    simp only [Prod.mk.injEq] at h1
    obtain ⟨rfl, rfl⟩ := h1
    exact ⟨hy, rfl⟩
  have kind2 : ao.pr.kind = 2 → runW call ao.pr ao.dst (ao.args.map (readArg s.env)) s.mem = some (r, m) := by
    intro h0
    unfold Prim.run at hrun
    split at hrun
    · rename_i h1; omega
    · rename_i h1; omega
    · rename_i h1; omega
    · exact hrun
  cases hpr : ao.pr with
  | mv =>
    rw [hpr] at hk kind0
    obtain ⟨h1, rfl⟩ := kind0 rfl
    simp only [okPrim] at hk
    split at hk
    · rename_i x hop
      have hr : (execOp a.eval o).run P w = .ok (.value (a.eval x)) w := by unfold execOp; rw [hop]; rfl
      obtain ⟨G', hG⟩ := mv_sound hr h hN hk h1
      exact value hr (hn G' _ _ hG)
    · rename_i x hop
      have hr : (execOp a.eval o).run P w = .ok (.value (a.eval x)) w := by unfold execOp; rw [hop]; rfl
      obtain ⟨G', hG⟩ := mv_sound hr h hN hk h1
      exact value hr (hn G' _ _ hG)
    · cases hk
  | append sz bytes =>
    rw [hpr] at hk kind0
    obtain ⟨h1, rfl⟩ := kind0 rfl
    simp only [okPrim] at hk
    split at hk
    · rename_i c hop
      split at hk
      · rename_i x y t u hc ha hat
        simp only [Bool.and_eq_true] at hk
        obtain ⟨⟨happ, hkk⟩, hk⟩ := hk
        unfold isAppend at happ
        simp only [Bool.and_eq_true, decide_eq_true_eq] at happ
        obtain ⟨rfl, happ⟩ := happ
        split at happ
        · rename_i e hu
          split at happ
          · rename_i i hi
            simp only [Bool.and_eq_true, beq_iff_eq, decide_eq_true_eq] at happ
            obtain ⟨⟨⟨h2, h3⟩, h4⟩, h5⟩ := happ
            split at h5
            · rename_i z hz
              obtain ⟨ar, br, hargs, ka, kb⟩ := okArgs_two hk
              rw [hargs] at h1
              simp only [runP, List.map_cons, List.map_nil] at h1
              unfold rAppend at h1
              split at h1
              · rename_i sz1 xs sz2 ys own heq
                simp only [List.cons.injEq, and_true] at heq
                obtain ⟨hxe, hye⟩ := heq
                split at h1
                · rename_i hc4
                  obtain ⟨rfl, rfl, hb1, hb2⟩ := hc4
                  injection h1 with h1
                  subst h1
                  have hy := okArg_sound h.slots kb
                  rw [hye] at hy
                  cases hd : ao.dst with
                  | none => rw [hpr] at hD; exact absurd hd (hD rfl)
                  | some d =>
                    have hark : ∃ n, ar = .k n := by
                      rw [hargs] at hkk
                      cases ar <;> simp [isK] at hkk
                      exact ⟨_, rfl⟩
                    obtain ⟨n0, rfl⟩ := hark
                    have happ : ∃ vs, Apps P w t i.size ys.length (a.eval y) vs ∧ (∀ q ∈ ys, q.cells.length = sz) ∧ (∀ c ∈ flat ys, okc c = true) ∧ RepL G.K vs (flat ys) := by
                      rcases hy.list_inv with ⟨rfl, base, cap, hv, _⟩ | ⟨b, off, cap, vs, hv, hyc, hysz, hyok, hyK, hyr⟩
                      · refine ⟨[], ⟨.inl ⟨e, hu⟩, fun w' => by rw [hv]; rfl, fun w' _ => ?_, by simp, by simp⟩, by simp, by simp [flat], by simp [flat]; exact .nil⟩
                        rw [hv]
                        cases base <;> simp [Builtin.firstCells, loadCells, loadCellsFrom]
                      · have hvl : vs.length = ys.length * i.size := by rw [h2, hyr.length, flat_length hysz]
                        refine ⟨vs, ⟨.inl ⟨e, hu⟩, fun w' => by rw [hv]; rfl, fun w' hw' => ?_, hvl, RepL.one hyr hyok⟩, hysz, hyok, hyr⟩
                        rw [hv]
                        refine run_firstCells_some w' i.size ys.length _ _ _ vs hvl (fun j u hu' => ?_)
                        have := h.inv.kh _ _ _ (hyK j u hu')
                        rw [addr_add]
                        simpa [World.cell?, hw'] using this
                    obtain ⟨vs, a1, a2, a3, a4⟩ := happ
                    obtain ⟨G', cv, w', hr, hG⟩ := app_sound hop hc (toList_two ha) (toList_two hat) hu hi h2 h3 hz (by simpa using h5) h (hN d hd) hxe (by rw [okArg_k ka]; rfl) a1 a2 a3 a4 hb1 hb2 ao.args (by rw [hargs]; simp)
                    refine value hr (hn G' _ _ ?_)
                    rw [hd]; exact hG
                · cases h1
              · rename_i sz1 xs sz2 ys own heq
                simp only [List.cons.injEq, and_true] at heq
                obtain ⟨hxe, hye⟩ := heq
                split at h1
                · rename_i hc4
                  obtain ⟨rfl, rfl, hyl, hb1, hb2⟩ := hc4
                  injection h1 with h1
                  subst h1
                  have hy := okArg_sound h.slots kb
                  rw [hye] at hy
                  cases hd : ao.dst with
                  | none => rw [hpr] at hD; exact absurd hd (hD rfl)
                  | some d =>
                    have hark : ∃ n, ar = .k n := by
                      rw [hargs] at hkk
                      cases ar <;> simp [isK] at hkk
                      exact ⟨_, rfl⟩
                    obtain ⟨n0, rfl⟩ := hark
                    have happ : ∃ vs, Apps P w t i.size ys.length (a.eval y) vs ∧ (∀ q ∈ ys, q.cells.length = sz) ∧ (∀ c ∈ flat ys, okc c = true) ∧ RepL G.K vs (flat ys) := by
                      rcases hy.list_inv with ⟨rfl, base, cap, hv, _⟩ | ⟨b, off, cap, vs, hv, hyc, hysz, hyok, hyK, hyr⟩
                      · refine ⟨[], ⟨.inl ⟨e, hu⟩, fun w' => by rw [hv]; rfl, fun w' _ => ?_, by simp, by simp⟩, by simp, by simp [flat], by simp [flat]; exact .nil⟩
                        rw [hv]
                        cases base <;> simp [Builtin.firstCells, loadCells, loadCellsFrom]
                      · have hvl : vs.length = ys.length * i.size := by rw [h2, hyr.length, flat_length hysz]
                        refine ⟨vs, ⟨.inl ⟨e, hu⟩, fun w' => by rw [hv]; rfl, fun w' hw' => ?_, hvl, RepL.one hyr hyok⟩, hysz, hyok, hyr⟩
                        rw [hv]
                        refine run_firstCells_some w' i.size ys.length _ _ _ vs hvl (fun j u hu' => ?_)
                        have := h.inv.kh _ _ _ (hyK j u hu')
                        rw [addr_add]
                        simpa [World.cell?, hw'] using this
                    obtain ⟨vs, a1, a2, a3, a4⟩ := happ
                    obtain ⟨G', cv, w', hr, hG⟩ := app_full_sound hop hc (toList_two ha) (toList_two hat) hu hi h2 h3 hz (by simpa using h5) h (hN d hd) hxe hyl (by rw [okArg_k ka]; rfl) a1 a2 a3 a4 hb1 hb2 ao.args (by rw [hargs]; simp)
                    refine value hr (hn G' _ _ ?_)
                    rw [hd]; exact hG
                · cases h1
              · rename_i sz1 xs sz2 heq
                simp only [List.cons.injEq, and_true] at heq
                obtain ⟨hxe, hye⟩ := heq
                split at h1
                · rename_i hc4
                  obtain ⟨rfl, rfl, hb1, hb2⟩ := hc4
                  injection h1 with h1
                  subst h1
                  have hy := okArg_sound h.slots kb
                  rw [hye] at hy
                  cases hd : ao.dst with
                  | none => rw [hpr] at hD; exact absurd hd (hD rfl)
                  | some d =>
                    have hark : ∃ n, ar = .k n := by
                      rw [hargs] at hkk
                      cases ar <;> simp [isK] at hkk
                      exact ⟨_, rfl⟩
                    obtain ⟨n0, rfl⟩ := hark
                    have happ : Apps P w t i.size ([] : List V).length (a.eval y) [] := by
                      have hv : ∃ ad cap, a.eval y = .slice (some ad) 0 cap := by
                        generalize a.eval y = v at hy
                        cases hy with
                        | data r => cases r with | emp ad cap _ => exact ⟨ad, cap, rfl⟩
                      obtain ⟨ad, cap, hv⟩ := hv
                      refine ⟨.inl ⟨e, hu⟩, fun w' => by rw [hv]; rfl, fun w' _ => ?_, by simp, by simp⟩
                      rw [hv]
                      simp [Builtin.firstCells, loadCells, loadCellsFrom]
                    obtain ⟨G', cv, w', hr, hG⟩ := app_sound hop hc (toList_two ha) (toList_two hat) hu hi h2 h3 hz (by simpa using h5) h (hN d hd) hxe (by rw [okArg_k ka]; rfl) happ (by simp) (by simp [flat]) .nil (by simpa using hb1) (by simpa using hb2) ao.args (by rw [hargs]; simp)
                    rw [List.append_nil] at hG
                    refine value hr (hn G' _ _ ?_)
                    rw [hd]; exact hG
                · cases h1
              · cases h1
            · cases h5
          · cases happ
        · cases happ
      · cases hk
    · cases hk
  | bslice sz n zero ps =>
    rw [hpr] at hk kind0
    obtain ⟨h1, rfl⟩ := kind0 rfl
    simp only [okPrim] at hk
    split at hk
    · rename_i t len parts hop
      simp only [Bool.and_eq_true, beq_iff_eq] at hk
      obtain ⟨⟨hb, hps⟩, hk⟩ := hk
      unfold isBslice at hb
      split at hb
      · rename_i e hu
        split at hb
        · rename_i i hi
          simp only [Bool.and_eq_true, beq_iff_eq, decide_eq_true_eq] at hb
          obtain ⟨⟨⟨⟨b1, b2⟩, b4⟩, b5⟩, b6⟩ := hb
          split at b6
          · rename_i z hz
            simp only [Bool.and_eq_true, beq_iff_eq] at b6
            cases hd : ao.dst with
            | none => rw [hpr] at hD; exact absurd hd (hD rfl)
            | some d =>
              obtain ⟨G', cv, w', hr, hG, _⟩ := bslice_sound hop hu hi b1 b2 b4 b5 hz b6.1 b6.2 hps h (hN d hd) hk h1 ao.args
              refine value hr (hn G' _ _ ?_)
              rw [hd]; exact hG
          · cases b6
        · cases hb
      · cases hb
    · cases hk
  | bslicef sz n zero ps =>
    rw [hpr] at hk kind0
    obtain ⟨h1, rfl⟩ := kind0 rfl
    simp only [okPrim] at hk
    split at hk
    · rename_i t len parts hop
      simp only [Bool.and_eq_true, beq_iff_eq] at hk
      obtain ⟨⟨hb, hps⟩, hk⟩ := hk
      unfold isBslice at hb
      split at hb
      · rename_i e hu
        split at hb
        · rename_i i hi
          simp only [Bool.and_eq_true, beq_iff_eq, decide_eq_true_eq] at hb
          obtain ⟨⟨⟨⟨b1, b2⟩, b4⟩, b5⟩, b6⟩ := hb
          split at b6
          · rename_i z hz
            simp only [Bool.and_eq_true, beq_iff_eq] at b6
            cases hd : ao.dst with
            | none => rw [hpr] at hD; exact absurd hd (hD rfl)
            | some d =>
              obtain ⟨G', cv, w', hr, hG⟩ := bslicef_sound hop hu hi b1 b2 b4 b5 hz b6.1 b6.2 hps h (hN d hd) hk h1 ao.args
              refine value hr (hn G' _ _ ?_)
              rw [hd]; exact hG
          · cases b6
        · cases hb
      · cases hb
    · cases hk
  | load n =>
    have hk1 : ao.pr.kind = 1 := by rw [hpr]; rfl
    simp only [Prim.run, hk1] at hrun
    split at hrun
    · rename_i v hv
      injection hrun with hrun
      injection hrun with e1 e2
      subst e1 e2
      exact plain (by rw [hpr]; rfl) hv rfl
    · rw [hpr] at hk hrun
      obtain ⟨y, hy, h1⟩ := Option.map_eq_some_iff.1 hrun
      injection h1 with e1 e2
      subst e1 e2
      simp only [okPrim] at hk
      split at hk
      · rename_i t x hop
        simp only [Bool.and_eq_true] at hk
        obtain ⟨j, d, c1, c2, c3⟩ := varD hk.1
        simp only [runR] at hy
        unfold rLoadB at hy
        split at hy
        · rename_i l k off he
          have hargs := h.reads hk.2
          rw [he] at hargs
          obtain ⟨_, hh, hp⟩ := SRepL.one hargs
          simp only [List.map_cons, List.map_nil, List.cons.injEq, and_true] at hh
          subst hh
          obtain ⟨b, nn, ⟨hlt, hl1, hlam⟩, hpe⟩ := hp.ptr_inv
          obtain ⟨cs, hm, hy⟩ := bind_some_iff.1 hy
          have hne : cs ≠ [] := loadB_ne (varNZ hk.1) hy
          obtain ⟨⟨b', cur, e, fz, d1, d2, d3, d4, d5, d6, d7⟩, d8⟩ := (h.inv.mem l k cs hm).1 hl1 hne
          rw [hlam] at d1
          cases d1
          obtain ⟨cv, e1, e2⟩ := s_loadB (P := P) (w := w) c1 c2 c3 d3.1 d5 hy
          have hr : (execOp a.eval o).run P w = .ok (.value cv) w := by unfold execOp; rw [hop]; rw [← hpe] at e1; exact vrun e1
          refine value hr (hn G _ _ ?_)
          exact h.putPure hN e2 (loadB_noClaim hy) ao.args
        · cases hy
      · cases hk
  | store n =>
    have h1 := kind2 (by rw [hpr]; rfl)
    rw [hpr] at hk h1
    simp only [okPrim] at hk
    split at hk
    · rename_i t x y hop
      simp only [Bool.and_eq_true] at hk
      obtain ⟨hi0, hk⟩ := hk
      split at hi0
      · rename_i i hi
        simp only [Bool.and_eq_true, beq_iff_eq, bne_iff_ne] at hi0
        obtain ⟨w', hr, hd, G', hG⟩ := store_sound hop hi hi0.1 hi0.2 h hk h1
        unfold Oper.wp
        rw [hr, Oper.upon_skip, ← hdst, hd]
        refine hn G' _ _ ?_
        rw [hd]
        exact hG
      · cases hi0
    · cases hk
  | alloc zero =>
    have h1 := kind2 (by rw [hpr]; rfl)
    rw [hpr] at hk h1
    simp only [okPrim] at hk
    split at hk
    · rename_i t hop
      simp only [Bool.and_eq_true] at hk
      obtain ⟨hz, hk⟩ := hk
      unfold zeroIs at hz
      split at hz
      · rename_i i hi
        split at hz
        · rename_i z hzz
          replace h1 : rAlloc zero ao.dst (ao.args.map (readArg s.env)) s.mem = some (r, m) := h1
          unfold rAlloc at h1
          split at h1
          · have hrun' : (execOp a.eval o).run P w = .ok (.value (.pointer (some ⟨w.heap.size, 0, none⟩))) (w.alloc (.cells z.cells t)) := by
              unfold execOp
              rw [hop]
              exact vrun (by simp [Instr.alloc, zeroValue, run_info hi, hzz, newVar, newRow])
            obtain ⟨G', cv, w', hr, hG⟩ := newBox_sound hrun' h hN (fun _ _ => (repCs_sound (K := G.K) hz).1.toS) h1 ao.args
            exact value hr (hn G' _ _ hG)
          · cases h1
        · cases hz
      · cases hz
    · cases hk
  | box =>
    have h1 := kind2 (by rw [hpr]; rfl)
    rw [hpr] at hk h1
    simp only [okPrim] at hk
    split at hk
    · rename_i t x hop
      replace h1 : rBox ao.dst (ao.args.map (readArg s.env)) s.mem = some (r, m) := h1
      unfold rBox at h1
      split at h1
      · rename_i xv he
        have hargs := h.reads hk
        rw [he] at hargs
        obtain ⟨_, hh, hp⟩ := SRepL.one hargs
        simp only [List.map_cons, List.map_nil, List.cons.injEq, and_true] at hh
        subst hh
        have hrun' : (execOp a.eval o).run P w = .ok (.value (.pointer (some ⟨w.heap.size, 0, none⟩))) (w.alloc (.cells (a.eval x).cells t)) := by
          unfold execOp
          rw [hop]
          exact vrun (by simp [Instr.box, newVar, newRow])
        obtain ⟨G', cv, w', hr, hG⟩ := newBox_sound hrun' h hN (fun l hl => cells_rep hp hl) h1 ao.args
        exact value hr (hn G' _ _ hG)
      · cases h1
    · cases hk
  | call f =>
    have h1 := kind2 (by rw [hpr]; rfl)
    rw [hpr] at hk h1
    replace h1 : call f (ao.args.map (readArg s.env)) s.mem = some (r, m) := h1
    simp only [okPrim] at hk
    split at hk
    · rename_i c hop
      split at hk
      · rename_i f' hc
        simp only [Bool.and_eq_true, decide_eq_true_eq] at hk
        obtain ⟨rfl, hk⟩ := hk
        obtain ⟨hcl, hcall⟩ := hS _ _ _ _ _ h1
        have hr := call_run (a := a) (w := w) (f := f) (x := .func f) (fs := #[]) (cs := #[]) hop hc rfl hcl
        unfold Oper.wp
        rw [hr, Oper.upon_enter]
        refine (hcall G w _ h.inv (hB.ext h.ext) (fun b o hb => by rw [h.lvl]; exact h.fresh b o hb) (by simpa using h.reads hk)).mono ?_
        rintro e w1 ⟨cv, G1, rfl, p1, p2, p3, p4, hml, p5⟩
        obtain ⟨G2, hF⟩ := h.called hN hml p2 p3 p4 p1 p5 ao.args
        rw [← hdst]
        exact hn G2 _ _ hF
      · cases hk
    · cases hk
  | callp f =>
    have hk3 : ao.pr.kind = 3 := by rw [hpr]; rfl
    simp only [Prim.run, hk3] at hrun
    obtain ⟨y, hy, h1⟩ := Option.map_eq_some_iff.1 hrun
    injection h1 with e1 e2
    subst e1 e2
    rw [hpr] at hk hy
    replace hy : rCallp call f (ao.args.map (readArg s.env)) = some y := hy
    unfold rCallp at hy
    split at hy
    · rename_i hloc
      obtain ⟨⟨v1, m1⟩, h2, h3⟩ := bind_some_iff.1 hy
      simp only at h3
      split at h3
      · cases h3
      rename_i hdl
      injection h3 with h3
      subst h3
      simp only [okPrim] at hk
      split at hk
      · rename_i c hop
        split at hk
        · rename_i f' hc
          simp only [Bool.and_eq_true, decide_eq_true_eq] at hk
          obtain ⟨rfl, hk⟩ := hk
          obtain ⟨hcl, hcall⟩ := hS _ _ _ _ _ h2
          have hr := call_run (a := a) (w := w) (f := f) (x := .func f) (fs := #[]) (cs := #[]) hop hc rfl hcl
          unfold Oper.wp
          rw [hr, Oper.upon_enter]
          have hargs := SRepL.noLocal (G := G) (G' := G.bare) rfl (h.reads hk) (by simpa using hloc)
          refine (hcall G.bare w _ (bare_inv h.inv) (fun b o hb => ⟨(hB.ext h.ext b o hb).1, rfl⟩) (fun b o hb => by cases hb) (by simpa using hargs)).mono ?_
          rintro e w1 ⟨cv, G1, rfl, p1, p2, p3, p4, hml, p5⟩
          rw [← hdst]
          obtain ⟨G2, hG⟩ := h.calledPure hN p3 p2 p1 (by simpa using hdl) p5 ao.args
          exact hn G2 _ _ hG
        · cases hk
      · cases hk
    · cases hy
  | arow sz n zero ps =>
    have h1 := kind2 (by rw [hpr]; rfl)
    rw [hpr] at hk h1
    replace h1 : rArow sz n zero ps (ao.args.map (readArg s.env)) s.mem = some (r, m) := h1
    simp only [okPrim] at hk
    split at hk
    · rename_i t len parts hop
      simp only [Bool.and_eq_true, beq_iff_eq] at hk
      obtain ⟨⟨hb, hps⟩, hk⟩ := hk
      unfold isBslice at hb
      split at hb
      · rename_i e hu
        split at hb
        · rename_i i hi
          simp only [Bool.and_eq_true, beq_iff_eq, decide_eq_true_eq] at hb
          obtain ⟨⟨⟨⟨b1, b2⟩, b4⟩, b5⟩, b6⟩ := hb
          split at b6
          · rename_i z hz
            simp only [Bool.and_eq_true, beq_iff_eq] at b6
            obtain ⟨G', cv, w', hr, hG⟩ := arow_sound hop hu hi b1 b2 b4 b5 hz b6.1 b6.2 hps h hN hk h1 ao.args
            exact value hr (hn G' _ _ hG)
          · cases b6
        · cases hb
      · cases hb
    · cases hk
  | appb sz bytes =>
    have h1 := kind2 (by rw [hpr]; rfl)
    rw [hpr] at hk h1
    replace h1 : rAppb sz bytes (ao.args.map (readArg s.env)) s.mem = some (r, m) := h1
    simp only [okPrim] at hk
    split at hk
    · rename_i c hop
      split at hk
      · rename_i x y t u hc ha hat
        simp only [Bool.and_eq_true] at hk
        obtain ⟨happ, hk⟩ := hk
        unfold isAppend at happ
        simp only [Bool.and_eq_true, decide_eq_true_eq] at happ
        obtain ⟨rfl, happ⟩ := happ
        split at happ
        · rename_i e hu
          split at happ
          · rename_i i hi
            simp only [Bool.and_eq_true, beq_iff_eq, decide_eq_true_eq] at happ
            obtain ⟨⟨⟨h2, h3⟩, h4⟩, h5⟩ := happ
            split at h5
            · rename_i z hz
              obtain ⟨G', cv, w', hr, hG⟩ := appb_sound hop hc (toList_two ha) (toList_two hat) hu hi h2 h3 hz (by simpa using h5) h hN hk h1 ao.args rfl
              exact value hr (hn G' _ _ hG)
            · cases h5
          · cases happ
        · cases happ
      · cases hk
    · cases hk
  | callf f =>
    have hk3 : ao.pr.kind = 3 := by rw [hpr]; rfl
    simp only [Prim.run, hk3] at hrun
    obtain ⟨y, hy, h1⟩ := Option.map_eq_some_iff.1 hrun
    injection h1 with e1 e2
    subst e1 e2
    rw [hpr] at hk hy
    replace hy : rCallf call f (ao.args.map (readArg s.env)) = some y := hy
    unfold rCallf at hy
    split at hy
    · rename_i hloc
      obtain ⟨⟨v1, m1⟩, h2, h3⟩ := bind_some_iff.1 hy
      simp only at h3
      simp only [okPrim] at hk
      split at hk
      · rename_i c hop
        split at hk
        · rename_i f' hc
          simp only [Bool.and_eq_true, decide_eq_true_eq] at hk
          obtain ⟨rfl, hk⟩ := hk
          obtain ⟨hcl, hcall⟩ := hS _ _ _ _ _ h2
          have hr := call_run (a := a) (w := w) (f := f) (x := .func f) (fs := #[]) (cs := #[]) hop hc rfl hcl
          unfold Oper.wp
          rw [hr, Oper.upon_enter]
          have hargs := SRepL.noLocal (G := G) (G' := G.bare) rfl (h.reads hk) (by simpa using hloc)
          refine (hcall G.bare w _ (bare_inv h.inv) (fun b o hb => ⟨(hB.ext h.ext b o hb).1, rfl⟩) (fun b o hb => by cases hb) (by simpa using hargs)).mono ?_
          rintro e w1 ⟨cv, G1, rfl, p1, p2, p3, p4, hml, p5⟩
          rw [← hdst]
          cases hd : ao.dst with
          | none => rw [hpr] at hD; exact absurd hd (hD rfl)
          | some d =>
            unfold arowOf at h3
            split at h3
            · obtain ⟨cs, hm, h4⟩ := bind_some_iff.1 h3
              split at h4
              · rename_i hh
                obtain ⟨rfl, rfl, q1, q2, q3, q4⟩ := hh
                injection h4 with h4
                subst h4
                obtain ⟨G2, hG⟩ := h.calledRow (hN d hd) p3 p2 p1 hm q1 q2 q3 (by simpa using q4) ao.args
                refine hn G2 _ _ ?_
                rw [hd]; exact hG
              · cases h4
            · injection h3 with h3
              subst h3
              obtain rfl := p1.nils_inv
              obtain ⟨G2, hG⟩ := h.calledPure hN p3 p2 (.data (.lnil _ true)) rfl (fun i sz xs hc => by
                cases i with
                | succ i => cases hc
                | zero => cases hc; exact .inl ⟨rfl, none, rfl⟩) ao.args
              exact hn G2 _ _ (by rw [hd] at hG ⊢; exact hG)
            · cases h3
        · cases hk
      · cases hk
    · cases hy
  | callz f =>
    have h1 := kind2 (by rw [hpr]; rfl)
    rw [hpr] at hk h1
    replace h1 : rCallz call f (ao.args.map (readArg s.env)) s.mem = some (r, m) := h1
    unfold rCallz at h1
    split at h1
    · rename_i hloc
      obtain ⟨⟨v1, m1⟩, h2, h3⟩ := bind_some_iff.1 h1
      simp only at h3
      simp only [okPrim] at hk
      split at hk
      · rename_i c hop
        split at hk
        · rename_i f' hc
          simp only [Bool.and_eq_true, decide_eq_true_eq] at hk
          obtain ⟨rfl, hk⟩ := hk
          obtain ⟨hcl, hcall⟩ := hS _ _ _ _ _ h2
          have hr := call_run (a := a) (w := w) (f := f) (x := .func f) (fs := #[]) (cs := #[]) hop hc rfl hcl
          unfold Oper.wp
          rw [hr, Oper.upon_enter]
          have hargs := SRepL.noLocal (G := G) (G' := G.bare) rfl (h.reads hk) (by simpa using hloc)
          refine (hcall G.bare w _ (bare_inv h.inv) (fun b o hb => ⟨(hB.ext h.ext b o hb).1, rfl⟩) (fun b o hb => by cases hb) (by simpa using hargs)).mono ?_
          rintro e w1 ⟨cv, G1, rfl, p1, p2, p3, p4, hml, p5⟩
          rw [← hdst]
          split at h3
          · obtain ⟨cs, hm, h4⟩ := bind_some_iff.1 h3
            split at h4
            · rename_i hh
              obtain ⟨rfl, rfl, q1, q2, q3, q4⟩ := hh
              obtain ⟨⟨k, m'⟩, h5, h6⟩ := Option.map_eq_some_iff.1 h4
              injection h6 with e1 e2
              subst e1 e2
              obtain ⟨G2, hG⟩ := h.calledRowZ hN p3 p2 p1 hm q2 q3 (by simpa using q4) h5 ao.args
              exact hn G2 _ _ hG
            · cases h4
          · injection h3 with h3
            injection h3 with e1 e2
            subst e1 e2
            obtain ⟨G2, hG⟩ := h.calledPure hN p3 p2 (p1.strip) rfl (Claims.none (noClaim_strip _)) ao.args
            exact hn G2 _ _ hG
          · cases h3
        · cases hk
      · cases hk
    · cases h1
  | loadf n =>
    have h1 := kind2 (by rw [hpr]; rfl)
    rw [hpr] at hk h1
    replace h1 : rLoadf n (ao.args.map (readArg s.env)) s.mem = some (r, m) := h1
    simp only [okPrim] at hk
    split at hk
    · rename_i t x hop
      simp only [Bool.and_eq_true] at hk
      obtain ⟨j, d, c1, c2, c3⟩ := varD hk.1
      obtain ⟨G', cv, hr, hG⟩ := loadf_sound hop c1 c2 c3 (fun h0 => varNZ hk.1 (by rw [h0])) h hk.2 hN h1 ao.args
      exact value hr (hn G' _ _ hG)
    · cases hk
  | callt f =>
    have h1 := kind2 (by rw [hpr]; rfl)
    rw [hpr] at hk h1
    replace h1 : rCallt call f ao.dst (ao.args.map (readArg s.env)) s.mem = some (r, m) := h1
    unfold rCallt at h1
    obtain ⟨y, hy, h1⟩ := Option.map_eq_some_iff.1 h1
    unfold rCallp at hy
    split at hy
    · rename_i hloc
      obtain ⟨⟨v1, m1⟩, h2, h3⟩ := bind_some_iff.1 hy
      simp only at h3
      split at h3
      · cases h3
      rename_i hdl
      injection h3 with h3
      subst h3
      simp only [okPrim] at hk
      split at hk
      · rename_i c hop
        split at hk
        · rename_i f' hc
          simp only [Bool.and_eq_true, decide_eq_true_eq] at hk
          obtain ⟨rfl, hk⟩ := hk
          obtain ⟨hcl, hcall⟩ := hS _ _ _ _ _ h2
          have hr := call_run (a := a) (w := w) (f := f) (x := .func f) (fs := #[]) (cs := #[]) hop hc rfl hcl
          unfold Oper.wp
          rw [hr, Oper.upon_enter]
          have hargs := SRepL.noLocal (G := G) (G' := G.bare) rfl (h.reads hk) (by simpa using hloc)
          refine (hcall G.bare w _ (bare_inv h.inv) (fun b o hb => ⟨(hB.ext h.ext b o hb).1, rfl⟩) (fun b o hb => by cases hb) (by simpa using hargs)).mono ?_
          rintro e w1 ⟨cv, G1, rfl, p1, p2, p3, p4, hml, p5⟩
          rw [← hdst]
          obtain ⟨G2, hG⟩ : ∃ G2, FInv G0 w0 L N G2 (a.put ao.dst cv) { env := putO (stripTakes s.env ao.args) ao.dst r, mem := m } w1 := by
            have plain : (v1, s.mem) = (r, m) → ∃ G2, FInv G0 w0 L N G2 (a.put ao.dst cv) { env := putO (stripTakes s.env ao.args) ao.dst r, mem := m } w1 := fun he => by
              cases he
              exact h.calledPure hN p3 p2 p1 (by simpa using hdl) p5 ao.args
            unfold thaw at h1
            split at h1
            · rename_i sz xs q d b0 m0 hd0 hm0
              split at h1
              · rename_i hcond
                simp only [Bool.and_eq_true, Bool.not_eq_true', decide_eq_true_eq, Option.isNone_iff_eq_none] at hcond
                obtain ⟨⟨⟨⟨g1, g2⟩, g3⟩, rfl⟩, g5⟩ := hcond
                have hL : m0.length = L := by have := h.lvl; rw [hm0] at this; simpa using this
                cases h1
                rw [hd0] at hN ⊢
                rw [hL]
                exact h.calledThaw (hN d rfl) hm0 g5 p3 p2 p1 p5 (by rintro rfl; cases g1) g2 g3 ao.args
              · exact plain h1
            · exact plain h1
          exact hn G2 _ _ hG
        · cases hk
      · cases hk
    · cases hy
  | callv =>
    have h1 := kind2 (by rw [hpr]; rfl)
    rw [hpr] at hk h1
    replace h1 : rCallv call (ao.args.map (readArg s.env)) s.mem = some (r, m) := h1
    unfold rCallv at h1
    split at h1
    · rename_i f first cap xs he
      simp only [okPrim] at hk
      split at hk
      · rename_i c hop
        split at hk
        · rename_i x hc
          obtain ⟨hcl, hcall⟩ := hS _ _ _ _ _ h1
          have hargs := h.reads hk
          rw [he] at hargs
          cases hargs with | cons hf hargs =>
          obtain ⟨fs, cs, hfe, hf1, hf2⟩ := hf.func_inv
          have hr := call_run (a := a) (w := w) (f := f) (x := x) hop hc hfe hcl
          unfold Oper.wp
          rw [hr, Oper.upon_enter]
          refine (hcall G w _ h.inv (hB.ext h.ext) (fun b o hb => by rw [h.lvl]; exact h.fresh b o hb) (by simpa using (hf1.append hargs).append hf2)).mono ?_
          rintro e w1 ⟨cv, G1, rfl, p1, p2, p3, p4, hml, p5⟩
          obtain ⟨G2, hF⟩ := h.called hN hml p2 p3 p4 p1 p5 ao.args
          rw [← hdst]
          exact hn G2 _ _ hF
        · cases hk
      · cases hk
    · cases h1
  | appends =>
    rw [hpr] at hk kind0
    obtain ⟨h1, rfl⟩ := kind0 rfl
    simp only [okPrim] at hk
    split at hk
    · rename_i c hop
      split at hk
      · rename_i x y t u hc ha hat
        simp only [Bool.and_eq_true] at hk
        obtain ⟨⟨happ, hkk⟩, hk⟩ := hk
        cases hd : ao.dst with
        | none => rw [hpr] at hD; exact absurd hd (hD rfl)
        | some d =>
          obtain ⟨G', cv, w', hr, hG⟩ := appends_sound hop hc (toList_two ha) (toList_two hat) happ hkk h (hN d hd) hk h1
          refine value hr (hn G' _ _ ?_)
          rw [hd]; exact hG
      · cases hk
    · cases hk
  | s2b =>
    rw [hpr] at hk kind0
    obtain ⟨h1, rfl⟩ := kind0 rfl
    simp only [okPrim] at hk
    split at hk
    · rename_i t u x hop
      simp only [Bool.and_eq_true] at hk
      obtain ⟨⟨k1, k2⟩, hk⟩ := hk
      split at k2
      · rename_i e hu
        cases hd : ao.dst with
        | none => rw [hpr] at hD; exact absurd hd (hD rfl)
        | some d =>
          obtain ⟨G', cv, w', hr, hG⟩ := s2b_sound hop (strD k1) hu k2 h (hN d hd) hk h1
          refine value hr (hn G' _ _ ?_)
          rw [hd]; exact hG
      · cases k2
    · cases hk
  | allocf n =>
    rw [hpr] at hk kind0
    obtain ⟨h1, rfl⟩ := kind0 rfl
    simp only [okPrim] at hk
    split at hk
    · rename_i t hop
      simp only [Bool.and_eq_true] at hk
      obtain ⟨k1, k2⟩ := hk
      split at k1
      · rename_i i hi
        simp only [Bool.and_eq_true] at k1
        obtain ⟨_, k1⟩ := k1
        split at k1
        · rename_i z hz
          have hr0 : r = .fptr n := by
            have hl : ao.args = [] := by
              cases hargs : ao.args with
              | nil => rfl
              | cons _ _ => rw [hargs] at k2; cases k2
            rw [hl] at h1
            simp only [runP, List.map_nil, Option.some.injEq] at h1
            exact h1.symm
          cases hd : ao.dst with
          | none => rw [hpr] at hD; exact absurd hd (hD rfl)
          | some d =>
            obtain ⟨G', cv, w', hr, hG⟩ := allocf_sound hop hi hz (by simpa using k1) h (hN d hd) ao.args
            refine value hr (hn G' _ _ ?_)
            rw [hd, hr0]; exact hG
        · cases k1
      · cases k1
    · cases hk
  | boxc =>
    rw [hpr] at hk kind0
    obtain ⟨h1, rfl⟩ := kind0 rfl
    simp only [okPrim] at hk
    split at hk
    · rename_i t x hop
      cases hd : ao.dst with
      | none => rw [hpr] at hD; exact absurd hd (hD rfl)
      | some d =>
        obtain ⟨G', cv, w', hr, hG⟩ := boxc_sound hop h (hN d hd) hk h1
        refine value hr (hn G' _ _ ?_)
        rw [hd]; exact hG
    · cases hk
  | storec n => exact absurd hpr (hnst n)
  | cvb =>
    rw [hpr] at hk kind0
    obtain ⟨h1, rfl⟩ := kind0 rfl
    simp only [okPrim] at hk
    split at hk
    · rename_i t u x hop
      simp only [Bool.and_eq_true, decide_eq_true_eq] at hk
      obtain ⟨⟨⟨rfl, k1⟩, k2⟩, hk⟩ := hk
      split at k1
      · rename_i e hu
        cases hd : ao.dst with
        | none => rw [hpr] at hD; exact absurd hd (hD rfl)
        | some d =>
          obtain ⟨G', cv, w', hr, hG⟩ := cvb_sound hop hu k1 k2 h (hN d hd) hk h1
          refine value hr (hn G' _ _ ?_)
          rw [hd]; exact hG
      · cases k1
    · cases hk
  | extk i =>
    rw [hpr] at hk kind0
    obtain ⟨h1, rfl⟩ := kind0 rfl
    simp only [okPrim] at hk
    split at hk
    · rename_i x i' hop
      simp only [Bool.and_eq_true, decide_eq_true_eq] at hk
      obtain ⟨⟨rfl, hK⟩, hk⟩ := hk
      obtain ⟨G', cv, w', hr, hG⟩ := extk_sound hop hK h hN hk h1
      exact value hr (hn G' _ _ hG)
    · cases hk
  | lsl sz lo hi mx =>
    cases mx with
    | false =>
      obtain ⟨h1, h2⟩ := kind0 (by rw [hpr]; rfl)
      exact plain (by rw [hpr]; rfl) h1 h2
    | true =>
      rw [hpr] at hk kind0
      obtain ⟨h1, rfl⟩ := kind0 rfl
      replace h1 : rLsl0 sz (ao.args.map (readArg s.env)) = some r := h1
      simp only [okPrim] at hk
      split at hk
      · rename_i t x y z hop
        simp only [Bool.and_eq_true] at hk
        obtain ⟨e, i, k1, k2, k3⟩ := slD hk.1
        cases hd : ao.dst with
        | none => rw [hpr] at hD; exact absurd hd (hD rfl)
        | some d =>
          obtain ⟨cv, hr, hG⟩ := lsl0_sound hop k1 k2 k3 h (hN d hd) hk.2 h1
          refine value hr (hn G _ _ ?_)
          rw [hd]; exact hG
      · cases hk
  | anew zero =>
    have h1 := kind2 (by rw [hpr]; rfl)
    rw [hpr] at hk h1
    simp only [okPrim] at hk
    split at hk
    · rename_i t hop
      simp only [Bool.and_eq_true] at hk
      obtain ⟨hz, hk⟩ := hk
      unfold zeroIs at hz
      split at hz
      · rename_i i hi
        split at hz
        · rename_i z hzz
          replace h1 : rAnew zero (ao.args.map (readArg s.env)) s.mem = some (r, m) := h1
          unfold rAnew at h1
          split at h1
          · have hrun' : (execOp a.eval o).run P w = .ok (.value (.pointer (some ⟨w.heap.size, 0, none⟩))) (w.alloc (.cells z.cells t)) := by
              unfold execOp
              rw [hop]
              exact vrun (by simp [Instr.alloc, zeroValue, run_info hi, hzz, newVar, newRow])
            obtain ⟨G', cv, w', hr, hG⟩ := newAt_sound hrun' h hN (fun _ _ => (repCs_sound (K := G.K) hz).1.toS) h1 ao.args
            exact value hr (hn G' _ _ hG)
          · cases h1
        · cases hz
      · cases hz
    · cases hk
  | abox =>
    have h1 := kind2 (by rw [hpr]; rfl)
    rw [hpr] at hk h1
    simp only [okPrim] at hk
    split at hk
    · rename_i t x hop
      replace h1 : rAbox (ao.args.map (readArg s.env)) s.mem = some (r, m) := h1
      unfold rAbox at h1
      split at h1
      · rename_i xv he
        have hargs := h.reads hk
        rw [he] at hargs
        obtain ⟨_, hh, hp⟩ := SRepL.one hargs
        simp only [List.map_cons, List.map_nil, List.cons.injEq, and_true] at hh
        subst hh
        have hrun' : (execOp a.eval o).run P w = .ok (.value (.pointer (some ⟨w.heap.size, 0, none⟩))) (w.alloc (.cells (a.eval x).cells t)) := by
          unfold execOp
          rw [hop]
          exact vrun (by simp [Instr.box, newVar, newRow])
        obtain ⟨G', cv, w', hr, hG⟩ := newAt_sound hrun' h hN (fun l hl => cells_rep hp hl) h1 ao.args
        exact value hr (hn G' _ _ hG)
      · cases h1
    · cases hk
  | loadk =>
    have h1 := kind2 (by rw [hpr]; rfl)
    rw [hpr] at hk h1
    replace h1 : rLoadk (ao.args.map (readArg s.env)) s.mem = some (r, m) := h1
    simp only [okPrim] at hk
    split at hk
    · rename_i t x hop
      simp only [Bool.and_eq_true] at hk
      obtain ⟨G', cv, w', hr, hG⟩ := loadk_sound hop hk.1 h hN hk.2 h1
      exact value hr (hn G' _ _ hG)
    · cases hk
  | mkmap kd =>
    have h1 := kind2 (by rw [hpr]; rfl)
    rw [hpr] at hk h1
    replace h1 : rMkmap kd (ao.args.map (readArg s.env)) s.mem = some (r, m) := h1
    simp only [okPrim] at hk
    split at hk
    · rename_i t hop
      obtain ⟨G', cv, w', hr, hG⟩ := mkmap_sound hop h hN h1 ao.args
      exact value hr (hn G' _ _ hG)
    · cases hk
  | mset kd =>
    have h1 := kind2 (by rw [hpr]; rfl)
    rw [hpr] at hk h1
    replace h1 : rMset kd (ao.args.map (readArg s.env)) s.mem = some (r, m) := h1
    simp only [okPrim] at hk
    split at hk
    · rename_i t x y z hop
      simp only [Bool.and_eq_true] at hk
      obtain ⟨k1, k2⟩ := hk
      split at k1
      · rename_i k e ht
        obtain ⟨w', hr, hG⟩ := mset_sound (.inl hop) ht k1 h k2 h1
        unfold Oper.wp
        rw [hr, Oper.upon_skip, ← hdst, hnoDst ⟨kd, hpr⟩]
        refine hn G _ _ ?_
        rw [hnoDst ⟨kd, hpr⟩]
        exact hG
      · cases k1
    · rename_i t x y z hop
      simp only [Bool.and_eq_true] at hk
      obtain ⟨k1, k2⟩ := hk
      split at k1
      · rename_i k e ht
        obtain ⟨w', hr, hG⟩ := mset_sound (.inr hop) ht k1 h k2 h1
        unfold Oper.wp
        rw [hr, Oper.upon_skip, ← hdst, hnoDst ⟨kd, hpr⟩]
        refine hn G _ _ ?_
        rw [hnoDst ⟨kd, hpr⟩]
        exact hG
      · cases k1
    · cases hk
  | mget kd ok zero =>
    have hk1 : ao.pr.kind = 1 := by rw [hpr]; rfl
    simp only [Prim.run, hk1] at hrun
    split at hrun
    · rename_i v hv
      rw [hpr] at hv
      cases hv
    · rw [hpr] at hk hrun
      obtain ⟨y, hy, h1⟩ := Option.map_eq_some_iff.1 hrun
      injection h1 with e1 e2
      subst e1 e2
      replace hy : rMget kd ok zero (ao.args.map (readArg s.env)) s.mem = some y := hy
      simp only [okPrim] at hk
      split at hk
      · rename_i t x i ok' hop
        simp only [Bool.and_eq_true, beq_iff_eq] at hk
        obtain ⟨⟨rfl, k1⟩, k2⟩ := hk
        split at k1
        · rename_i k e ht
          simp only [Bool.and_eq_true] at k1
          obtain ⟨cv, hr, e1, e2⟩ := mget_sound hop ht k1.1 k1.2 h k2 hy
          exact value hr (hn G _ _ (h.putPure hN e1 e2 ao.args))
        · cases k1
      · cases hk
  | mkrow sz bytes zero =>
    have h1 := kind2 (by rw [hpr]; rfl)
    rw [hpr] at hk h1
    replace h1 : rMkrow sz bytes zero ao.dst (ao.args.map (readArg s.env)) s.mem = some (r, m) := h1
    simp only [okPrim] at hk
    split at hk
    · rename_i t x y hop
      simp only [Bool.and_eq_true] at hk
      obtain ⟨G', cv, w', hr, hG⟩ := mkrow_sound hop hk.1 h hN hk.2 h1
      exact value hr (hn G' _ _ hG)
    · cases hk
  | copyb sz =>
    have h1 := kind2 (by rw [hpr]; rfl)
    rw [hpr] at hk h1
    replace h1 : rCopyb sz (ao.args.map (readArg s.env)) s.mem = some (r, m) := h1
    simp only [okPrim] at hk
    split at hk
    · rename_i c hop
      split at hk
      · rename_i x y t u hc ha hat
        simp only [Bool.and_eq_true] at hk
        obtain ⟨e', i', hu, hi, hsz⟩ := slD hk.1
        obtain ⟨G', cv, w', hr, hG⟩ := copy_sound hop hc (Array.toList_inj.1 ha) (Array.toList_inj.1 hat) hu hi hsz h hk.2 hN h1
        exact value hr (hn G' _ _ hG)
      · cases hk
    · cases hk
  | rng =>
    have h1 := kind2 (by rw [hpr]; rfl)
    rw [hpr] at hk h1
    replace h1 : rRng (ao.args.map (readArg s.env)) s.mem = some (r, m) := h1
    simp only [okPrim] at hk
    split at hk
    · rename_i t x hop
      simp only [Bool.and_eq_true] at hk
      obtain ⟨G', cv, w', hr, hG⟩ := rng_sound hop (strD hk.1) h hN hk.2 h1
      exact value hr (hn G' _ _ hG)
    · cases hk
  | nxt =>
    have h1 := kind2 (by rw [hpr]; rfl)
    rw [hpr] at hk h1
    replace h1 : rNxt (ao.args.map (readArg s.env)) s.mem = some (r, m) := h1
    simp only [okPrim] at hk
    split at hk
    · rename_i x hop
      obtain ⟨G', cv, w', hr, hG⟩ := nxt_sound hop h hN hk h1
      exact value hr (hn G' _ _ hG)
    · cases hk
  | _ =>
    obtain ⟨h1, h2⟩ := kind0 (by rw [hpr]; rfl)
    exact plain (by rw [hpr]; rfl) h1 h2

end
end Go.Proofs.YtpajgenngpjbaaaGreat.Ev

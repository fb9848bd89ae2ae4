/- The frame's invariant through an operation that only computes, makes a row, appends, makes a box, writes a box. -/
import Derived.Test.YtgggjclhadlncaaEv5
import Derived.Laws.OwnMore
namespace Go.Proofs.Ytgggjclhadlncaa.Ev
open Go

theorem strip_strip (x : V) : x.strip.strip = x.strip := by cases x <;> rfl
theorem strip_own (x : V) (sz : Nat) (xs : List V) : x.strip ≠ .list sz xs true := by cases x <;> simp [V.strip]

theorem stripTakes_get : ∀ (l : List AArg) (e : Env) (t : Nat), get (stripTakes e l) t = get e t ∨ get (stripTakes e l) t = (get e t).strip
  | [], e, t => .inl rfl
  | .t _ :: l, e, t => stripTakes_get l e t
  | .c _ :: l, e, t => stripTakes_get l e t
  | .k n :: l, e, t => by
    have h := stripTakes_get l (put e n (get e n).strip) t
    simp only [stripTakes]
    rw [get_put] at h
    by_cases ht : t = n
    · subst ht
      simp only [if_true, strip_strip] at h
      exact .inr (h.elim id id)
    · simp only [ht, if_false] at h
      exact h

theorem stripTakes_own {l : List AArg} {e : Env} {t sz : Nat} {xs : List V} (h : get (stripTakes e l) t = .list sz xs true) : get e t = .list sz xs true := by
  rcases stripTakes_get l e t with h1 | h1
  · rw [← h1]; exact h
  · exact absurd (h1 ▸ h) (strip_own _ _ _)

theorem stripTakes_taken {l : List AArg} {n : Nat} (hl : .k n ∈ l) {e : Env} {sz : Nat} {xs : List V} : get (stripTakes e l) n ≠ .list sz xs true := by
  induction l generalizing e with
  | nil => cases hl
  | cons x l ih =>
    rcases List.mem_cons.1 hl with rfl | hl'
    · simp only [stripTakes]
      intro hc
      have := stripTakes_own hc
      rw [get_put, if_pos rfl] at this
      exact strip_own _ _ _ this
    · cases x <;> exact ih hl'

theorem stripTakes_rep {G : Gh} {v : Value} {e : Env} {t : Nat} (l : List AArg) (h : SRep G v (get e t)) : SRep G v (get (stripTakes e l) t) := by
  rcases stripTakes_get l e t with h1 | h1 <;> rw [h1]
  · exact h
  · exact h.strip

theorem put_getD (a : Act) (d : Nat) (v : Value) (t : Nat) (hd : d < a.tmps.size) : (a.put (some d) v).tmps.getD t Go.undef = if t = d then v else a.tmps.getD t Go.undef := by
  simp only [Act.put, Array.getD_eq_getD_getElem?, Array.getElem?_setIfInBounds]
  by_cases h : d = t
  · subst h; simp [hd]
  · simp [h, Ne.symm h]

theorem put_size (a : Act) (d : Option Nat) (v : Value) : (a.put d v).tmps.size = a.tmps.size := by cases d <;> simp [Act.put]
theorem put_defers (a : Act) (d : Option Nat) (v : Value) : (a.put d v).defers = a.defers := by cases d <;> rfl

section
variable {G0 : Gh} {w0 : World} {L N : Nat} {G : Gh} {a : Act} {s : St} {w : World}

/-- An operation that only computes. -/
theorem FInv.putOwn (h : FInv G0 w0 L N G a s w) {d : Option Nat} (hd : ∀ t, d = some t → t < N) {cv : Value} {r : V} (hr : SRep G cv r) (ho : ∀ t, d = some t → ∀ sz xs, r = .list sz xs true → OwnOK G w L t sz xs cv) (l : List AArg) :
    FInv G0 w0 L N G (a.put d cv) { s with env := putO (stripTakes s.env l) d r } w := by
  cases d with
  | none =>
    exact ⟨h.inv, h.lvl, h.size, h.defers, fun t => stripTakes_rep l (h.slots t), fun t sz xs hg => h.own t sz xs (stripTakes_own hg), h.ext, h.fresh0, h.fresh⟩
  | some d =>
    have hd' : d < a.tmps.size := by rw [h.size]; exact hd d rfl
    refine ⟨h.inv, h.lvl, by rw [put_size]; exact h.size, by rw [put_defers]; exact h.defers, fun t => ?_, fun t sz xs hg => ?_, h.ext, h.fresh0, h.fresh⟩
    · rw [put_getD _ _ _ _ hd']
      simp only [putO, get_put]
      by_cases ht : t = d
      · simp only [ht, if_true]; exact hr
      · simp only [ht, if_false]; exact stripTakes_rep l (h.slots t)
    · simp only [putO, get_put] at hg
      rw [put_getD _ _ _ _ hd']
      by_cases ht : t = d
      · simp only [ht, if_true] at hg ⊢; exact ho _ rfl _ _ hg
      · simp only [ht, if_false] at hg ⊢
        exact h.own t sz xs (stripTakes_own hg)

theorem FInv.putPure (h : FInv G0 w0 L N G a s w) {d : Option Nat} (hd : ∀ t, d = some t → t < N) {cv : Value} {r : V} (hr : SRep G cv r) (ho : ∀ sz xs, r ≠ .list sz xs true) (l : List AArg) :
    FInv G0 w0 L N G (a.put d cv) { s with env := putO (stripTakes s.env l) d r } w :=
  h.putOwn hd hr (fun _ _ sz xs hh => absurd hh (ho sz xs)) l

/-- A guarded operation that is not carried out. -/
theorem FInv.putUndef (h : FInv G0 w0 L N G a s w) {d : Option Nat} (hd : ∀ t, d = some t → t < N) : FInv G0 w0 L N G (a.put d Go.undef) { s with env := putO s.env d .undef } w :=
  h.putPure hd (.data .undef) (by simp) []

/-- What of the world an operation of the frame may have turned: the blocks of X. -/
structure Chg (X : Nat → Prop) (G : Gh) (w : World) (G' : Gh) (w' : World) : Prop where
  lv : G'.lv = G.lv
  K : KLe G.K G'.K
  lam : ∀ l t b, G.lam l t = some b → G'.lam l t = some b
  size : w.heap.size ≤ w'.heap.size
  os : w'.os = w.os
  tape : w'.tape = w.tape
  output : w'.output = w.output
  blk : ∀ b, b < w.heap.size → ¬ X b → w'.heap[b]? = w.heap[b]? ∧ (∀ o, G'.K b o = G.K b o) ∧ G'.phi b = G.phi b

variable {X : Nat → Prop} {G' : Gh} {w' : World}

theorem Chg.gle (c : Chg X G w G' w') : GLe G G' := ⟨by rw [c.lv]; exact Nat.le_refl _, c.K, fun l t b _ => c.lam l t b⟩

theorem Chg.box (c : Chg X G w G' w') {l t : Nat} {cs : List V} (h : BoxOK G w l t cs) (hX : ∀ b, G.lam l t = some b → G.phi b = some (.box l t) → b < w.heap.size ∧ ¬ X b) : BoxOK G' w' l t cs := by
  obtain ⟨b, cur, e, h1, h2, h3, h4, h5⟩ := h.ex
  obtain ⟨hb, hx⟩ := hX b h1 h2
  obtain ⟨c1, c2, c3⟩ := c.blk b hb hx
  exact ⟨⟨b, cur, e, c.lam _ _ _ h1, by rw [c3]; exact h2, by rw [c1]; exact h3, h4.mono c.gle, fun o => by rw [c2]; exact h5 o⟩, h.dc⟩

theorem Chg.own (c : Chg X G w G' w') {t sz : Nat} {xs : List V} {v : Value} (h : OwnOK G w L t sz xs v) (hX : ∀ b, G.phi b = some (.slot L t) → b < w.heap.size → ¬ X b) : OwnOK G' w' L t sz xs v := by
  rcases h with h | ⟨g, cap, cur, e, h1, h2, h3, h4, h5, h6, h7⟩
  · exact .inl h
  · have hg : g < w.heap.size := (Array.getElem?_eq_some_iff.1 h3).1
    obtain ⟨c1, c2, c3⟩ := c.blk g hg (hX g h2 hg)
    exact .inr ⟨g, cap, cur, e, h1, by rw [c3]; exact h2, by rw [c1]; exact h3, h4, h5, h6, fun o ho => by rw [c2]; exact h7 o ho⟩

theorem Chg.ext (c : Chg X G w G' w') (h : Ext L G0 w0 G w) (hlam : ∀ l t, l < L → G'.lam l t = G.lam l t) (hX : ∀ b, b < w0.heap.size → (∀ l t, G0.phi b ≠ some (.box l t)) → ¬ X b)
    (hbox : ∀ b l t, l < L → G0.phi b = some (.box l t) → G.phi b = some (.box l t) → G'.phi b = some (.box l t)) : Ext L G0 w0 G' w' :=
  ⟨fun b o v hv => c.K _ _ _ (h.K b o v hv), fun l t hl => (hlam l t hl).trans (h.lam l t hl), Nat.le_trans h.size c.size, c.os.trans h.os, c.tape.trans h.tape, c.output.trans h.output,
   fun b hb hn => by
     obtain ⟨e1, e2, e3⟩ := h.blk b hb hn
     obtain ⟨c1, c2, c3⟩ := c.blk b (Nat.lt_of_lt_of_le hb h.size) (hX b hb hn)
     exact ⟨c1.trans e1, fun o => (c2 o).trans (e2 o), c3.trans e3⟩,
   fun b l t hl hb => hbox b l t hl hb (h.box b l t hl hb)⟩

theorem cell_of_heap {w : World} {b o : Nat} {cur : Array Value} {e : TypeId} {f : Nat × Nat} (h : w.heap[b]? = some (.cells cur e f)) : w.cell? ⟨b, o, none⟩ = cur[o]? := by
  simp [World.cell?, h]

theorem cell_same {w w' : World} {b o : Nat} (h : w'.heap[b]? = w.heap[b]?) : w'.cell? ⟨b, o, none⟩ = w.cell? ⟨b, o, none⟩ := by
  simp [World.cell?, h]

theorem kh_lt (h : ∀ b o v, G.K b o = some v → w.cell? ⟨b, o, none⟩ = some v) {b o : Nat} {v : Value} (hv : G.K b o = some v) : b < w.heap.size :=
  World.block_lt_of_cell? w _ (h b o v hv)

/-- Ownership goes from slot n to slot d. -/
def Gh.move (G : Gh) (L n d : Nat) : Gh := { G with phi := fun b => if G.phi b = some (.slot L n) then some (.slot L d) else G.phi b }

theorem FInv.putMove (h : FInv G0 w0 L N G a s w) {d n sz : Nat} {xs : List V} (hd : d < N) (hx : get s.env n = .list sz xs true) (l : List AArg) (hl : .k n ∈ l) :
    FInv G0 w0 L N (G.move L n d) (a.put (some d) (a.tmps.getD n Go.undef)) { s with env := put (stripTakes s.env l) d (.list sz xs true) } w := by
  have hd' : d < a.tmps.size := by rw [h.size]; exact hd
  have c : Chg (fun b => G.phi b = some (.slot L n)) G w (G.move L n d) w := ⟨rfl, fun _ _ _ h => h, fun _ _ _ h => h, Nat.le_refl _, rfl, rfl, rfl, fun b _ hb => ⟨rfl, fun _ => rfl, by simp [Gh.move, hb]⟩⟩
  refine ⟨⟨h.inv.lv, h.inv.kh, fun l t cs hm => c.box (h.inv.mem l t cs hm) (fun b hl hp => ⟨h.inv.lamL _ _ _ hl, by rw [hp]; simp⟩), h.inv.lamBox, h.inv.lamL, fun b hb => ?_⟩, h.lvl, by rw [put_size]; exact h.size, by rw [put_defers]; exact h.defers, fun t => ?_, fun t sz' xs' hg => ?_,
    c.ext h.ext (fun _ _ _ => rfl) (fun b hb hn => ?_) (fun b l t hl h0 h1 => by simp [Gh.move, h1]), h.fresh0, fun b l t hb => ?_⟩
  · refine h.inv.phiL b ?_
    intro h0
    apply hb
    show (if G.phi b = some (.slot L n) then some (.slot L d) else G.phi b) = none
    rw [h0]; simp
  · rw [put_getD _ _ _ _ hd']
    show SRep _ _ (get (put (stripTakes s.env l) d (.list sz xs true)) t)
    rw [get_put]
    by_cases ht : t = d
    · rw [if_pos ht, if_pos ht]
      have := h.slots n
      rw [hx] at this
      exact this.mono c.gle
    · rw [if_neg ht, if_neg ht]
      exact (stripTakes_rep l (h.slots t)).mono c.gle
  · replace hg : get (put (stripTakes s.env l) d (.list sz xs true)) t = .list sz' xs' true := hg
    rw [get_put] at hg
    rw [put_getD _ _ _ _ hd']
    by_cases ht : t = d
    · subst ht
      simp only [if_true] at hg ⊢
      cases hg
      rcases h.own n sz xs hx with h1 | ⟨g, cap, cur, e, h1, h2, h3, h4⟩
      · exact .inl h1
      · exact .inr ⟨g, cap, cur, e, h1, by simp [Gh.move, h2], h3, h4⟩
    · simp only [ht, if_false] at hg ⊢
      have hne : t ≠ n := by
        intro e1; subst e1
        exact stripTakes_taken hl hg
      exact c.own (h.own t sz' xs' (stripTakes_own hg)) (fun b hb _ => by rw [hb]; simp; exact hne)
  · rw [(h.ext.blk b hb hn).2.2]
    intro h0
    exact absurd (h.fresh0 b L n h0) (by omega)
  · by_cases hp : G.phi b = some (.slot L n)
    · have : (G.move L n d).phi b = some (.slot L d) := by simp [Gh.move, hp]
      rw [this] at hb; simp at hb; omega
    · have : (G.move L n d).phi b = G.phi b := by simp [Gh.move, hp]
      rw [this] at hb; exact h.fresh b l t hb

/-- A new block, of which the first k cells are known, owned by slot d. -/
def Gh.fresh (G : Gh) (B k : Nat) (cells : Array Value) (o : Own) : Gh :=
  { G with K := fun b i => if b = B then (if i < k then cells[i]? else none) else G.K b i, phi := fun b => if b = B then some o else G.phi b }

theorem fresh_chg {B k : Nat} {cells : Array Value} {o : Own} {e : TypeId} (hi : Inv G w s.mem) (hB : B = w.heap.size) : Chg (fun _ => False) G w (G.fresh B k cells o) (w.alloc (.cells cells e)) := by
  subst hB
  refine ⟨rfl, fun b i v hv => ?_, fun _ _ _ h => h, by simp, rfl, rfl, rfl, fun b hb _ => ⟨heap_alloc_old w _ b hb, fun i => ?_, ?_⟩⟩
  · have hb := kh_lt hi.kh hv
    show (if b = w.heap.size then _ else _) = _
    rw [if_neg (by omega)]; exact hv
  · show (if b = w.heap.size then _ else _) = _
    rw [if_neg (by omega)]
  · show (if b = w.heap.size then _ else _) = _
    rw [if_neg (by omega)]

theorem fresh_kh {B k : Nat} {cells : Array Value} {o : Own} {e : TypeId} (hi : Inv G w s.mem) (hB : B = w.heap.size) :
    ∀ b i v, (G.fresh B k cells o).K b i = some v → (w.alloc (.cells cells e)).cell? ⟨b, i, none⟩ = some v := by
  subst hB
  intro b i v hv
  replace hv : (if b = w.heap.size then (if i < k then cells[i]? else none) else G.K b i) = some v := hv
  by_cases hb : b = w.heap.size
  · subst hb
    simp only [if_true] at hv
    split at hv
    · rw [cell_of_heap (heap_alloc_new w _)]; exact hv
    · cases hv
  · rw [if_neg hb] at hv
    rw [World.cell?_alloc_old _ _ _ hb]
    exact hi.kh b i v hv

theorem fresh_phiL {B k : Nat} {cells : Array Value} {o : Own} {e : TypeId} (hi : Inv G w s.mem) (hB : B = w.heap.size) : ∀ b, (G.fresh B k cells o).phi b ≠ none → b < (w.alloc (.cells cells e)).heap.size := by
  subst hB
  intro b hb
  by_cases h : b = w.heap.size
  · simp; omega
  · have : G.phi b ≠ none := by
      intro h0; apply hb
      show (if b = w.heap.size then _ else _) = _
      rw [if_neg h]; exact h0
    have := hi.phiL b this
    simp; omega

/-- A new row that slot d owns: a slice literal, an append that grew. -/
theorem FInv.putRow (h : FInv G0 w0 L N G a s w) {d sz cap : Nat} {cells : Array Value} {e : TypeId} {xs : List V} (hd : d < N) (hcs : cells.size = cap * sz) (hle : xs.length ≤ cap) (hcap : cap ≤ maxLen)
    (hsz : ∀ x ∈ xs, x.cells.length = sz) (hok : ∀ c ∈ flat xs, okc c = true) (hr : RepL G.K (cells.toList.take (xs.length * sz)) (flat xs)) (l : List AArg) :
    ∃ G', FInv G0 w0 L N G' (a.put (some d) (.slice (some ⟨w.heap.size, 0, none⟩) xs.length cap)) { s with env := put (stripTakes s.env l) d (.list sz xs true) } (w.alloc (.cells cells e)) := by
  have hd' : d < a.tmps.size := by rw [h.size]; exact hd
  have c := fresh_chg (k := xs.length * sz) (cells := cells) (o := .slot L d) (e := e) h.inv rfl
  have hlist : Rep (G.fresh w.heap.size (xs.length * sz) cells (.slot L d)).K (.slice (some ⟨w.heap.size, 0, none⟩) xs.length cap) (.list sz xs true) := by
    refine .list _ _ _ _ _ _ (cells.toList.take (xs.length * sz)) hle hsz hok (fun i v hv => ?_) (hr.mono c.K)
    show (if w.heap.size = w.heap.size then _ else _) = _
    rw [if_pos rfl]
    rw [List.getElem?_take] at hv
    split at hv
    · rename_i hi
      rw [if_pos (by omega), Nat.zero_add]
      simpa using hv
    · cases hv
  refine ⟨G.fresh w.heap.size (xs.length * sz) cells (.slot L d), ⟨h.inv.lv, fresh_kh h.inv rfl, fun l t cs hm => c.box (h.inv.mem l t cs hm) (fun b hl _ => ⟨h.inv.lamL _ _ _ hl, fun hf => hf⟩), h.inv.lamBox, fun l t b hl => ?_, fresh_phiL h.inv rfl⟩, h.lvl, by rw [put_size]; exact h.size, by rw [put_defers]; exact h.defers, fun t => ?_, fun t sz' xs' hg => ?_,
    c.ext h.ext (fun _ _ _ => rfl) (fun _ _ _ hf => hf) (fun b l t hl h0 h1 => ?_), h.fresh0, fun b l t hb => ?_⟩
  · have := h.inv.lamL l t b hl
    simp; omega
  · rw [put_getD _ _ _ _ hd']
    show SRep _ _ (get (put (stripTakes s.env l) d (.list sz xs true)) t)
    rw [get_put]
    by_cases ht : t = d
    · rw [if_pos ht, if_pos ht]; exact .data hlist
    · rw [if_neg ht, if_neg ht]; exact (stripTakes_rep l (h.slots t)).mono c.gle
  · replace hg : get (put (stripTakes s.env l) d (.list sz xs true)) t = .list sz' xs' true := hg
    rw [get_put] at hg
    rw [put_getD _ _ _ _ hd']
    by_cases ht : t = d
    · subst ht
      simp only [if_true] at hg ⊢
      cases hg
      refine .inr ⟨w.heap.size, cap, cells, e, rfl, ?_, heap_alloc_new w _, hcs, hle, hcap, fun o ho => ?_⟩
      · show (if w.heap.size = w.heap.size then _ else _) = _
        rw [if_pos rfl]
      · show (if w.heap.size = w.heap.size then _ else _) = _
        rw [if_pos rfl, if_neg (by omega)]
    · simp only [ht, if_false] at hg ⊢
      exact c.own (h.own t sz' xs' (stripTakes_own hg)) (fun _ _ _ hf => hf)
  · have := h.inv.phiL b (by rw [h1]; simp)
    show (if b = w.heap.size then _ else _) = _
    rw [if_neg (by omega)]; exact h1
  · replace hb : (if b = w.heap.size then some (.slot L d) else G.phi b) = some (.slot l t) := hb
    split at hb
    · simp at hb; omega
    · exact h.fresh b l t hb

/-- An append in place: slot n owned the row, slot d owns it now. -/
theorem FInv.putGrow (h : FInv G0 w0 L N G a s w) {d n sz g cap : Nat} {cur cells : Array Value} {e : TypeId} {xs ys : List V} {sw : World} (hd : d < N) (hx : get s.env n = .list sz xs true)
    (hphi : G.phi g = some (.slot L n)) (hheap : w.heap[g]? = some (.cells cur e (0, 0))) (hK : ∀ o, xs.length * sz ≤ o → G.K g o = none)
    (hsw : sw.heap = w.heap.setIfInBounds g (.cells cells e (0, 0))) (ho : sw.os = w.os) (ht : sw.tape = w.tape) (hp : sw.output = w.output)
    (hcs : cells.size = cap * sz) (hle : (xs ++ ys).length ≤ cap) (hcap : cap ≤ maxLen) (hold : cells.toList.take (xs.length * sz) = cur.toList.take (xs.length * sz))
    (hsz : ∀ x ∈ xs ++ ys, x.cells.length = sz) (hok : ∀ c ∈ flat (xs ++ ys), okc c = true) (hr : RepL G.K (cells.toList.take ((xs ++ ys).length * sz)) (flat (xs ++ ys))) (l : List AArg) (hl : .k n ∈ l) :
    ∃ G', FInv G0 w0 L N G' (a.put (some d) (.slice (some ⟨g, 0, none⟩) (xs ++ ys).length cap)) { s with env := put (stripTakes s.env l) d (.list sz (xs ++ ys) true) } sw := by
  have hd' : d < a.tmps.size := by rw [h.size]; exact hd
  have hg : g < w.heap.size := (Array.getElem?_eq_some_iff.1 hheap).1
  have hgh : sw.heap[g]? = some (.cells cells e (0, 0)) := by rw [hsw]; simp [hg]
  have hoh : ∀ b, b ≠ g → sw.heap[b]? = w.heap[b]? := fun b hb => by rw [hsw]; simp [Ne.symm hb]
  let G' : Gh := { G with K := fun b i => if b = g then (if i < (xs ++ ys).length * sz then cells[i]? else none) else G.K b i, phi := fun b => if b = g then some (.slot L d) else G.phi b }
  have hKg : ∀ i v, G.K g i = some v → i < xs.length * sz ∧ cells[i]? = some v := by
    intro i v hv
    have hi : i < xs.length * sz := by
      rcases Nat.lt_or_ge i (xs.length * sz) with h' | h'
      · exact h'
      · rw [hK i h'] at hv; cases hv
    have h1 := h.inv.kh g i v hv
    rw [cell_of_heap hheap] at h1
    refine ⟨hi, ?_⟩
    have e1 : cells.toList[i]? = cur.toList[i]? := by
      have := congrArg (fun q => q[i]?) hold
      simpa [List.getElem?_take, hi] using this
    simpa [h1] using e1
  have c : Chg (fun b => b = g) G w G' sw := by
    refine ⟨rfl, fun b i v hv => ?_, fun _ _ _ h => h, by rw [hsw]; simp, ho, ht, hp, fun b hb hne => ⟨hoh b hne, fun i => ?_, ?_⟩⟩
    · show (if b = g then _ else _) = _
      by_cases hb : b = g
      · subst hb
        obtain ⟨h1, h2⟩ := hKg i v hv
        rw [if_pos rfl, if_pos (by rw [List.length_append, Nat.add_mul]; omega)]; exact h2
      · rw [if_neg hb]; exact hv
    · show (if b = g then _ else _) = _
      rw [if_neg hne]
    · show (if b = g then _ else _) = _
      rw [if_neg hne]
  have hlist : Rep G'.K (.slice (some ⟨g, 0, none⟩) (xs ++ ys).length cap) (.list sz (xs ++ ys) true) := by
    refine .list _ _ _ _ _ _ (cells.toList.take ((xs ++ ys).length * sz)) hle hsz hok (fun i v hv => ?_) (hr.mono c.K)
    show (if g = g then _ else _) = _
    rw [if_pos rfl]
    rw [List.getElem?_take] at hv
    split at hv
    · rename_i hi
      rw [if_pos (by omega), Nat.zero_add]
      simpa using hv
    · cases hv
  have hnd : ∀ t, get (stripTakes s.env l) t = .list sz xs true → True := fun _ _ => trivial
  refine ⟨G', ⟨h.inv.lv, fun b i v hv => ?_, fun l t cs hm => c.box (h.inv.mem l t cs hm) (fun b hl hp' => ⟨h.inv.lamL _ _ _ hl, fun hf => by subst hf; rw [hphi] at hp'; cases hp'⟩), h.inv.lamBox, fun l t b hl => ?_, fun b hb => ?_⟩, h.lvl, by rw [put_size]; exact h.size, by rw [put_defers]; exact h.defers, fun t => ?_, fun t sz' xs' hg' => ?_,
    c.ext h.ext (fun _ _ _ => rfl) (fun b hb hn hf => ?_) (fun b l t hl h0 h1 => ?_), h.fresh0, fun b l t hb => ?_⟩
  · replace hv : (if b = g then (if i < (xs ++ ys).length * sz then cells[i]? else none) else G.K b i) = some v := hv
    by_cases hb : b = g
    · subst hb
      simp only [if_true] at hv
      split at hv
      · rw [cell_of_heap hgh]; exact hv
      · cases hv
    · rw [if_neg hb] at hv
      rw [cell_same (hoh b hb)]; exact h.inv.kh b i v hv
  · have := h.inv.lamL l t b hl
    rw [hsw]; simpa using this
  · rw [hsw]
    by_cases hb' : b = g
    · subst hb'; simpa using hg
    · have : G.phi b ≠ none := by
        intro h0; apply hb
        show (if b = g then _ else _) = _
        rw [if_neg hb']; exact h0
      simpa using h.inv.phiL b this
  · rw [put_getD _ _ _ _ hd']
    show SRep _ _ (get (put (stripTakes s.env l) d (.list sz (xs ++ ys) true)) t)
    rw [get_put]
    by_cases ht : t = d
    · rw [if_pos ht, if_pos ht]; exact .data hlist
    · rw [if_neg ht, if_neg ht]; exact (stripTakes_rep l (h.slots t)).mono c.gle
  · replace hg' : get (put (stripTakes s.env l) d (.list sz (xs ++ ys) true)) t = .list sz' xs' true := hg'
    rw [get_put] at hg'
    rw [put_getD _ _ _ _ hd']
    by_cases ht : t = d
    · subst ht
      simp only [if_true] at hg' ⊢
      cases hg'
      refine .inr ⟨g, cap, cells, e, rfl, ?_, hgh, hcs, hle, hcap, fun o ho => ?_⟩
      · show (if g = g then _ else _) = _
        rw [if_pos rfl]
      · show (if g = g then _ else _) = _
        rw [if_pos rfl, if_neg (by omega)]
    · simp only [ht, if_false] at hg' ⊢
      have hne : t ≠ n := by
        intro e1; subst e1
        exact stripTakes_taken hl hg'
      exact c.own (h.own t sz' xs' (stripTakes_own hg')) (fun b hb _ hf => by subst hf; rw [hphi] at hb; simp at hb; exact hne hb.symm)
  · subst hf
    have := (h.ext.blk b hb hn).2.2
    rw [hphi] at this
    exact absurd (h.fresh0 b L n this.symm) (by omega)
  · show (if b = g then _ else _) = _
    rw [if_neg (by intro hf; subst hf; rw [hphi] at h1; cases h1)]; exact h1
  · replace hb : (if b = g then some (.slot L d) else G.phi b) = some (.slot l t) := hb
    split at hb
    · simp at hb; omega
    · exact h.fresh b l t hb

/-- A new box of the frame. -/
theorem FInv.putBox (h : FInv G0 w0 L N G a s w) {d : Nat} {cells : Array Value} {e : TypeId} {cs : List V} {b0 : Boxes} {m : Mem} (hd : d < N) (hm : s.mem = b0 :: m) (hn : bget b0 d = none)
    (hr : SRepL G cells.toList cs) (hdc : ∀ c ∈ cs, dataCell L c = true) (l : List AArg) :
    ∃ G', FInv G0 w0 L N G' (a.put (some d) (.pointer (some ⟨w.heap.size, 0, none⟩))) { env := put (stripTakes s.env l) d (.ptr m.length d 0), mem := bput b0 d cs :: m } (w.alloc (.cells cells e)) := by
  have hd' : d < a.tmps.size := by rw [h.size]; exact hd
  have hL : m.length = L := by have := h.lvl; rw [hm] at this; simpa using this
  have hget : ∀ l t, mget (bput b0 d cs :: m) l t = if l = L ∧ t = d then some cs else mget s.mem l t := by
    intro l t
    rw [hm]
    simp only [mget, hL]
    by_cases hl : l = L
    · subst hl; simp [bget_bput]
    · rw [beq_ne hl]; simp [hl]
  have hlam : G.lam L d = none := by
    refine h.inv.lamBox L d (by rw [h.lvl]; omega) ?_
    rw [hm]; simp [mget, hL, hn]
  let G' : Gh := { G with lam := fun l t => if l = L ∧ t = d then some w.heap.size else G.lam l t, phi := fun b => if b = w.heap.size then some (.box L d) else G.phi b }
  have c : Chg (fun _ => False) G w G' (w.alloc (.cells cells e)) := by
    refine ⟨rfl, fun _ _ _ h => h, fun l t b hb => ?_, by simp, rfl, rfl, rfl, fun b hb _ => ⟨heap_alloc_old w _ b hb, fun _ => rfl, ?_⟩⟩
    · show (if _ then _ else _) = _
      rw [if_neg (by rintro ⟨rfl, rfl⟩; rw [hlam] at hb; cases hb)]; exact hb
    · show (if b = w.heap.size then _ else _) = _
      rw [if_neg (by omega)]
  refine ⟨G', ⟨by show G.lv = _; rw [h.inv.lv, hm]; rfl, fun b i v hv => ?_, fun l t cs' hg => ?_, fun l t hl hg => ?_, fun l t b hl => ?_, fun b hb => ?_⟩, by simp [hL], by rw [put_size]; exact h.size, by rw [put_defers]; exact h.defers, fun t => ?_, fun t sz' xs' hg => ?_,
    c.ext h.ext (fun l t hl => by show (if _ then _ else _) = _; rw [if_neg (by omega)]) (fun _ _ _ hf => hf) (fun b l t hl h0 h1 => ?_), h.fresh0, fun b l t hb => ?_⟩
  · have hb := kh_lt h.inv.kh (show G.K b i = some v from hv)
    rw [World.cell?_alloc_lt _ _ _ hb]; exact h.inv.kh b i v hv
  · rw [hget] at hg
    by_cases hlt : l = L ∧ t = d
    · obtain ⟨rfl, rfl⟩ := hlt
      simp only [and_self, if_true, Option.some.injEq] at hg
      subst hg
      refine ⟨⟨w.heap.size, cells, e, ?_, ?_, heap_alloc_new w _, hr.mono c.gle, fun o => ?_⟩, hdc⟩
      · show (if _ then _ else _) = _
        rw [if_pos ⟨rfl, rfl⟩]
      · show (if w.heap.size = w.heap.size then _ else _) = _
        rw [if_pos rfl]
      · cases hk : G.K w.heap.size o with
        | none => rfl
        | some v => have := kh_lt h.inv.kh hk; omega
    · rw [if_neg hlt] at hg
      exact c.box (h.inv.mem l t cs' hg) (fun b hl _ => ⟨h.inv.lamL _ _ _ hl, fun hf => hf⟩)
  · rw [hget] at hg
    split at hg
    · cases hg
    · rename_i hne
      show (if _ then _ else _) = _
      rw [if_neg hne]
      exact h.inv.lamBox l t (by rw [h.lvl]; simpa [hL] using hl) hg
  · replace hl : (if l = L ∧ t = d then some w.heap.size else G.lam l t) = some b := hl
    split at hl
    · cases hl; simp
    · have := h.inv.lamL l t b hl; simp; omega
  · by_cases hb' : b = w.heap.size
    · simp; omega
    · have : G.phi b ≠ none := by
        intro h0; apply hb
        show (if b = w.heap.size then _ else _) = _
        rw [if_neg hb']; exact h0
      have := h.inv.phiL b this
      simp; omega
  · rw [put_getD _ _ _ _ hd']
    show SRep _ _ (get (put (stripTakes s.env l) d (.ptr m.length d 0)) t)
    rw [get_put]
    by_cases ht : t = d
    · rw [if_pos ht, if_pos ht, hL]
      refine .ptr L d 0 w.heap.size ?_ ?_
      · show L < G.lv
        rw [h.inv.lv, h.lvl]; omega
      · show (if _ then _ else _) = _
        rw [if_pos ⟨rfl, rfl⟩]
    · rw [if_neg ht, if_neg ht]; exact (stripTakes_rep l (h.slots t)).mono c.gle
  · replace hg : get (put (stripTakes s.env l) d (.ptr m.length d 0)) t = .list sz' xs' true := hg
    rw [get_put] at hg
    rw [put_getD _ _ _ _ hd']
    by_cases ht : t = d
    · simp [ht] at hg
    · simp only [ht, if_false] at hg ⊢
      exact c.own (h.own t sz' xs' (stripTakes_own hg)) (fun _ _ _ hf => hf)
  · have := h.inv.phiL b (by rw [h1]; simp)
    show (if b = w.heap.size then _ else _) = _
    rw [if_neg (by omega)]; exact h1
  · replace hb : (if b = w.heap.size then some (.box L d) else G.phi b) = some (.slot l t) := hb
    split at hb
    · cases hb
    · exact h.fresh b l t hb

/-- A store into a box. -/
theorem FInv.putStore (h : FInv G0 w0 L N G a s w) {l0 t0 b : Nat} {cur cells : Array Value} {e : TypeId} {cs cs' : List V} {sw : World} (hlt : l0 < s.mem.length) (hm : mget s.mem l0 t0 = some cs)
    (hb : G.lam l0 t0 = some b) (hphi : G.phi b = some (.box l0 t0)) (hheap : w.heap[b]? = some (.cells cur e (0, 0))) (hKn : ∀ o, G.K b o = none)
    (hsw : sw.heap = w.heap.setIfInBounds b (.cells cells e (0, 0))) (ho : sw.os = w.os) (ht : sw.tape = w.tape) (hp : sw.output = w.output)
    (hr : SRepL G cells.toList cs') (hdc : ∀ c ∈ cs', dataCell l0 c = true) (l : List AArg) (v : Value) :
    FInv G0 w0 L N G (a.put none v) { env := stripTakes s.env l, mem := mput s.mem l0 t0 cs' } sw := by
  have hg : b < w.heap.size := (Array.getElem?_eq_some_iff.1 hheap).1
  have hgh : sw.heap[b]? = some (.cells cells e (0, 0)) := by rw [hsw]; simp [hg]
  have hoh : ∀ b', b' ≠ b → sw.heap[b']? = w.heap[b']? := fun b' hb' => by rw [hsw]; simp [Ne.symm hb']
  have c : Chg (fun b' => b' = b) G w G sw := ⟨rfl, fun _ _ _ h => h, fun _ _ _ h => h, by rw [hsw]; simp, ho, ht, hp, fun b' _ hne => ⟨hoh b' hne, fun _ => rfl, rfl⟩⟩
  refine ⟨⟨by rw [h.inv.lv, mput_length], fun b' i v hv => ?_, fun l t q hq => ?_, fun l t hl hq => ?_, fun l t b' hl => ?_, fun b' hb' => ?_⟩, by rw [mput_length]; exact h.lvl, h.size, h.defers, fun t => stripTakes_rep l (h.slots t), fun t sz xs hg' => ?_,
    c.ext h.ext (fun _ _ _ => rfl) (fun b' hb' hn hf => ?_) (fun _ _ _ _ _ h1 => h1), h.fresh0, h.fresh⟩
  · have : b' ≠ b := by intro hf; subst hf; rw [hKn] at hv; cases hv
    rw [cell_same (hoh b' this)]; exact h.inv.kh b' i v hv
  · rw [mget_mput _ _ _ _ _ _ hlt] at hq
    by_cases hlt' : l = l0 ∧ t = t0
    · obtain ⟨rfl, rfl⟩ := hlt'
      simp only [and_self, if_true, Option.some.injEq] at hq
      subst hq
      exact ⟨⟨b, cells, e, hb, hphi, hgh, hr, hKn⟩, hdc⟩
    · rw [if_neg hlt'] at hq
      refine c.box (h.inv.mem l t q hq) (fun b' hl hp' => ⟨h.inv.lamL _ _ _ hl, fun hf => ?_⟩)
      subst hf
      rw [hphi] at hp'
      simp at hp'
      exact hlt' ⟨hp'.1.symm, hp'.2.symm⟩
  · rw [mget_mput _ _ _ _ _ _ hlt] at hq
    split at hq
    · cases hq
    · exact h.inv.lamBox l t (by rw [mput_length] at hl; exact hl) hq
  · have := h.inv.lamL l t b' hl
    rw [hsw]; simpa using this
  · have := h.inv.phiL b' hb'
    rw [hsw]; simpa using this
  · exact c.own (h.own t sz xs (stripTakes_own hg')) (fun b' hb' _ hf => by subst hf; rw [hphi] at hb'; cases hb')
  · subst hf
    have := (h.ext.blk b' hb' hn).2.2
    rw [hphi] at this
    exact hn l0 t0 this.symm

theorem eraseAll_get : ∀ (l : List Nat) (e : Env) (t : Nat), get (eraseAll l e) t = get e t ∨ get (eraseAll l e) t = .junk
  | [], _, _ => .inl rfl
  | x :: l, e, t => by
    have := eraseAll_get l (erase e x) t
    simp only [eraseAll]
    rw [get_erase] at this
    by_cases h : t = x
    · simp only [h, if_true] at this ⊢; exact .inr (this.elim id id)
    · simpa only [h, if_false] using this

theorem FInv.erase (h : FInv G0 w0 L N G a s w) (l : List Nat) : FInv G0 w0 L N G a { s with env := eraseAll l s.env } w := by
  refine ⟨h.inv, h.lvl, h.size, h.defers, fun t => ?_, fun t sz xs hg => ?_, h.ext, h.fresh0, h.fresh⟩
  · rcases eraseAll_get l s.env t with h1 | h1
    · show SRep _ _ (get (eraseAll l s.env) t)
      rw [h1]; exact h.slots t
    · show SRep _ _ (get (eraseAll l s.env) t)
      rw [h1]; exact .data (.junk _)
  · replace hg : get (eraseAll l s.env) t = .list sz xs true := hg
    rcases eraseAll_get l s.env t with h1 | h1
    · rw [h1] at hg; exact h.own t sz xs hg
    · rw [h1] at hg; cases hg

theorem get_mem : ∀ {e : Env} {t : Nat}, get e t = .junk ∨ ∃ p ∈ e, p.2 = get e t
  | [], _ => .inl rfl
  | (s, v) :: r, t => by
    simp only [get]
    cases Nat.beq s t
    · rcases get_mem (e := r) (t := t) with h | ⟨p, hp, he⟩
      · exact .inl h
      · exact .inr ⟨p, List.mem_cons_of_mem _ hp, he⟩
    · exact .inr ⟨(s, v), List.mem_cons_self, rfl⟩

theorem bget_mem : ∀ {e : Boxes} {t : Nat} {cs : List V}, bget e t = some cs → ∃ p ∈ e, p.2 = cs
  | (s, v) :: r, t, cs, h => by
    simp only [bget] at h
    cases hb : Nat.beq s t
    · rw [hb] at h
      obtain ⟨p, hp, he⟩ := bget_mem (e := r) (t := t) h
      exact ⟨p, List.mem_cons_of_mem _ hp, he⟩
    · rw [hb] at h
      simp only [cond_true, Option.some.injEq] at h
      exact ⟨(s, v), List.mem_cons_self, h⟩

theorem mget_lt {M : Mem} {l t : Nat} {cs : List V} (h : mget M l t = some cs) : l < M.length := by
  rcases Nat.lt_or_ge l M.length with h' | h'
  · exact h'
  · rw [mget_none M l t h'] at h; cases h

/-- Box t of the frame's level is forgotten: values that do not point there stand as they stood. -/
theorem SRep.forget {v : Value} {x : V} (h : SRep G v x) {L t : Nat} (hp : pointsTo L t x = false) : SRep { G with lam := fun l k => if l = L ∧ k = t then none else G.lam l k } v x := by
  cases h with
  | data r => exact .data r
  | ptr l k off b hl hb =>
    refine .ptr l k off b hl ?_
    show (if _ then _ else _) = _
    rw [if_neg]
    · exact hb
    · rintro ⟨rfl, rfl⟩
      simp [pointsTo] at hp
  | func fn f c f' c' h1 h2 =>
    simp [pointsTo] at hp
    obtain ⟨rfl, rfl⟩ := hp
    cases h1; cases h2
    exact .func fn [] [] [] [] .nil .nil

theorem SRepL.forget {L t : Nat} : ∀ {vs : List Value} {xs : List V}, SRepL G vs xs → (∀ x ∈ xs, pointsTo L t x = false) → SRepL { G with lam := fun l k => if l = L ∧ k = t then none else G.lam l k } vs xs
  | _, _, .nil, _ => .nil
  | _, _, .cons r rs, h => .cons (r.forget (h _ (by simp))) (SRepL.forget rs (fun x hx => h x (by simp [hx])))

theorem FInv.drop1 (h : FInv G0 w0 L N G a s w) {t : Nat} (hu : unpointed t s = true) :
    ∃ G', FInv G0 w0 L N G' a { s with mem := match s.mem with | [] => [] | b :: m => berase b t :: m } w := by
  cases hm : s.mem with
  | nil => simp [unpointed, hm] at hu
  | cons b0 m =>
    have hL : m.length = L := by have := h.lvl; rw [hm] at this; simpa using this
    simp only [unpointed, hm, Bool.and_eq_true, List.all_eq_true, Bool.not_eq_true', hL] at hu
    obtain ⟨hu1, hu2⟩ := hu
    have hget : ∀ l k, mget (berase b0 t :: m) l k = if l = L ∧ k = t then none else mget s.mem l k := by
      intro l k
      rw [hm]
      simp only [mget, hL]
      by_cases hl : l = L
      · subst hl; simp [bget_berase]
      · rw [beq_ne hl]; simp [hl]
    let G' : Gh := { G with lam := fun l k => if l = L ∧ k = t then none else G.lam l k }
    refine ⟨G', ⟨by show G.lv = _; rw [h.inv.lv, hm]; rfl, h.inv.kh, fun l k cs hq => ?_, fun l k hl hq => ?_, fun l k b hb => ?_, h.inv.phiL⟩, by simp [hL], h.size, h.defers, fun k => ?_, h.own, ⟨h.ext.K, fun l k hl => ?_, h.ext.size, h.ext.os, h.ext.tape, h.ext.output, h.ext.blk, h.ext.box⟩, h.fresh0, h.fresh⟩
    · simp only [hget] at hq
      split at hq
      · cases hq
      · rename_i hne
        have hbox := h.inv.mem l k cs hq
        obtain ⟨b, cur, e, h1, h2, h3, h4, h5⟩ := hbox.ex
        refine ⟨⟨b, cur, e, ?_, h2, h3, h4.forget (fun x hx => ?_), h5⟩, hbox.dc⟩
        · show (if _ then _ else _) = _
          rw [if_neg hne]; exact h1
        · by_cases hl : l = L
          · subst hl
            have hq2 := hq
            rw [hm] at hq2
            simp only [mget, hL, Nat.beq_refl, cond_true] at hq2
            obtain ⟨p, hp, he⟩ := bget_mem hq2
            exact hu2 p hp x (by rw [he]; exact hx)
          · have hlt := mget_lt hq
            rw [h.lvl] at hlt
            have := hbox.dc x hx
            cases x <;> simp [pointsTo, dataCell] at this ⊢
            · intro h1; omega
            · exact this
    · simp only [hget] at hq
      show (if _ then _ else _) = _
      by_cases hk : l = L ∧ k = t
      · rw [if_pos hk]
      · rw [if_neg hk] at hq ⊢
        exact h.inv.lamBox l k (by rw [h.lvl]; simpa [hL] using hl) hq
    · replace hb : (if l = L ∧ k = t then none else G.lam l k) = some b := hb
      split at hb
      · cases hb
      · exact h.inv.lamL l k b hb
    · refine (h.slots k).forget ?_
      rcases get_mem (e := s.env) (t := k) with h1 | ⟨p, hp, he⟩
      · rw [h1]; rfl
      · rw [← he]; exact hu1 p hp
    · show (if _ then _ else _) = _
      rw [if_neg (by omega)]; exact h.ext.lam l k hl

theorem FInv.drops : ∀ (l : List Nat) {G : Gh} {s s' : St}, FInv G0 w0 L N G a s w → dropAll l s = some s' → ∃ G', FInv G0 w0 L N G' a s' w
  | [], G, s, s', h, hd => by
    simp only [dropAll, Option.some.injEq] at hd
    subst hd; exact ⟨G, h⟩
  | t :: l, G, s, s', h, hd => by
    unfold dropAll at hd
    split at hd
    · rename_i hu
      obtain ⟨G', h'⟩ := h.drop1 hu
      exact FInv.drops l h' hd
    · cases hd

end
end Go.Proofs.Ytgggjclhadlncaa.Ev

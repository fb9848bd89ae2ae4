/- What the evaluator's values stand for in the model's memory: knowledge of cells, boxes, owned rows; the frame's invariant. -/
import Derived.Test.YtgggjclhadlncaaEv2
import Derived.Laws.AppendOwn
import Derived.Tactics
namespace Go.Proofs.Ytgggjclhadlncaa.Ev
open Go

abbrev Know := Nat → Nat → Option Value

mutual
inductive Rep (K : Know) : Value → V → Prop
  | junk (v : Value) : Rep K v .junk
  | undef : Rep K Go.undef .undef
  | bool (b : Bool) : Rep K (.bool b) (.bool b)
  | int (k : IntKind) (n : Int) : Rep K (.int k n) (.int k n)
  | str (s : List UInt8) : Rep K (.string ⟨s.toArray⟩) (.str s)
  | fl (k : FloatKind) (b : Nat) : Rep K (.float k b) (.fl k b)
  | cx (k : FloatKind) (re im : Nat) : Rep K (.complex k re im) (.cx k re im)
  | lnil (sz : Nat) (own : Bool) : Rep K (.slice none 0 0) (.list sz [] own)
  | lemp (a : Addr) (cap sz : Nat) (own : Bool) : Rep K (.slice (some a) 0 cap) (.list sz [] own)
  | list (b o cap sz : Nat) (xs : List V) (own : Bool) (vs : List Value) : xs.length ≤ cap → (∀ x ∈ xs, x.cells.length = sz) → (∀ c ∈ flat xs, okc c = true) →
      (∀ i v, vs[i]? = some v → K b (o + i) = some v) → RepL K vs (flat xs) → Rep K (.slice (some ⟨b, o, none⟩) xs.length cap) (.list sz xs own)
  | agg (cs : List Value) (vs : List V) : (∀ c ∈ vs, okc c = true) → RepL K cs vs → Rep K (.agg cs.toArray) (.agg vs)
  | tup (cs : List Value) (vs : List V) : RepL K cs vs → Rep K (.tuple cs.toArray) (.tup vs)
  | nilp : Rep K (.pointer none) .nilp
  | cptr (b o : Nat) (vs : List Value) (cs : List V) : (∀ c ∈ cs, okc c = true) → (∀ i v, vs[i]? = some v → K b (o + i) = some v) → RepL K vs cs →
      Rep K (.pointer (some ⟨b, o, none⟩)) (.cptr cs)
  | func (fn : Fn) : Rep K (.func fn #[] #[]) (.func fn [] [])
  | nilf : Rep K .nilFunc .nilf
inductive RepL (K : Know) : List Value → List V → Prop
  | nil : RepL K [] []
  | cons {v : Value} {x : V} {vs : List Value} {xs : List V} : Rep K v x → RepL K vs xs → RepL K (v :: vs) (x :: xs)
end

def KLe (K K' : Know) : Prop := ∀ b o v, K b o = some v → K' b o = some v

theorem Rep.mono {K K' : Know} (h : KLe K K') {v : Value} {x : V} (r : Rep K v x) : Rep K' v x := by
  refine Rep.rec (motive_1 := fun v x _ => Rep K' v x) (motive_2 := fun vs xs _ => RepL K' vs xs) ?_ ?_ ?_ ?_ ?_ ?_ ?_ ?_ ?_ ?_ ?_ ?_ ?_ ?_ ?_ ?_ ?_ ?_ r
  · exact fun v => .junk v
  · exact .undef
  · exact fun b => .bool b
  · exact fun k n => .int k n
  · exact fun s => .str s
  · exact fun k b => .fl k b
  · exact fun k a b => .cx k a b
  · exact fun sz own => .lnil sz own
  · exact fun a cap sz own => .lemp a cap sz own
  · exact fun b o cap sz xs own vs h1 h2 h3 h4 _ ih => .list b o cap sz xs own vs h1 h2 h3 (fun i v hv => h _ _ _ (h4 i v hv)) ih
  · exact fun cs vs h1 _ ih => .agg cs vs h1 ih
  · exact fun cs vs _ ih => .tup cs vs ih
  · exact .nilp
  · exact fun b o vs cs h1 h2 _ ih => .cptr b o vs cs h1 (fun i v hv => h _ _ _ (h2 i v hv)) ih
  · exact fun fn => .func fn
  · exact .nilf
  · exact .nil
  · exact fun _ _ ih1 ih2 => .cons ih1 ih2

theorem RepL.mono {K K' : Know} (h : KLe K K') : ∀ {vs : List Value} {xs : List V}, RepL K vs xs → RepL K' vs xs
  | _, _, .nil => .nil
  | _, _, .cons r rs => .cons (r.mono h) (RepL.mono h rs)

theorem RepL.length {K : Know} : ∀ {vs : List Value} {xs : List V}, RepL K vs xs → vs.length = xs.length
  | _, _, .nil => rfl
  | _, _, .cons _ rs => by simp [RepL.length rs]

theorem RepL.get {K : Know} : ∀ {vs : List Value} {xs : List V}, RepL K vs xs → ∀ {i : Nat} {x : V}, xs[i]? = some x → ∃ v, vs[i]? = some v ∧ Rep K v x
  | _, _, .nil, i, x, h => by simp at h
  | _, _, .cons r rs, 0, x, h => by simp at h; subst h; exact ⟨_, rfl, r⟩
  | _, _, .cons r rs, i + 1, x, h => by simpa using RepL.get rs (i := i) (by simpa using h)

theorem RepL.append {K : Know} : ∀ {vs ws : List Value} {xs ys : List V}, RepL K vs xs → RepL K ws ys → RepL K (vs ++ ws) (xs ++ ys)
  | _, _, _, _, .nil, h => h
  | _, _, _, _, .cons r rs, h => .cons r (RepL.append rs h)

theorem RepL.take {K : Know} : ∀ {vs : List Value} {xs : List V}, RepL K vs xs → ∀ n, RepL K (vs.take n) (xs.take n)
  | _, _, .nil, n => by simp; exact .nil
  | _, _, .cons r rs, 0 => .nil
  | _, _, .cons r rs, n + 1 => by simp only [List.take_succ_cons]; exact .cons r (RepL.take rs n)

theorem RepL.drop {K : Know} : ∀ {vs : List Value} {xs : List V}, RepL K vs xs → ∀ n, RepL K (vs.drop n) (xs.drop n)
  | _, _, .nil, n => by simp; exact .nil
  | _, _, .cons r rs, 0 => .cons r rs
  | _, _, .cons r rs, n + 1 => by simp only [List.drop_succ_cons]; exact RepL.drop rs n

theorem Rep.strip {K : Know} {v : Value} {x : V} (h : Rep K v x) : Rep K v x.strip := by
  cases h with
  | lnil sz own => exact .lnil sz false
  | lemp a cap sz own => exact .lemp a cap sz false
  | list b o cap sz xs own vs h1 h2 h3 h4 h5 => exact .list b o cap sz xs false vs h1 h2 h3 h4 h5
  | junk v => exact .junk v
  | undef => exact .undef
  | bool b => exact .bool b
  | int k n => exact .int k n
  | str s => exact .str s
  | fl k b => exact .fl k b
  | cx k a b => exact .cx k a b
  | agg cs vs h1 h2 => exact .agg cs vs h1 h2
  | tup cs vs h => exact .tup cs vs h
  | nilp => exact .nilp
  | cptr b o vs cs h1 h2 h3 => exact .cptr b o vs cs h1 h2 h3
  | func fn => exact .func fn
  | nilf => exact .nilf

theorem Rep.own {K : Know} {v : Value} {sz : Nat} {xs : List V} {o o' : Bool} (h : Rep K v (.list sz xs o)) : Rep K v (.list sz xs o') := by
  cases h with
  | lnil sz own => exact .lnil sz o'
  | lemp a cap sz own => exact .lemp a cap sz o'
  | list b o cap sz xs own vs h1 h2 h3 h4 h5 => exact .list b o cap sz xs o' vs h1 h2 h3 h4 h5

inductive Own where
  | box (l t : Nat)
  | slot (l t : Nat)
  deriving DecidableEq

/-- Ghost state: which cells are known for good, where the boxes lie, who owns which block. -/
structure Gh where
  lv : Nat
  K : Know
  lam : Nat → Nat → Option Nat
  phi : Nat → Option Own

mutual
inductive SRep (G : Gh) : Value → V → Prop
  | data {v : Value} {x : V} : Rep G.K v x → SRep G v x
  | ptr (l t off b : Nat) : l < G.lv → G.lam l t = some b → SRep G (.pointer (some ⟨b, off, none⟩)) (.ptr l t off)
  | func (fn : Fn) (f c : List Value) (f' c' : List V) : SRepL G f f' → SRepL G c c' → SRep G (.func fn f.toArray c.toArray) (.func fn f' c')
inductive SRepL (G : Gh) : List Value → List V → Prop
  | nil : SRepL G [] []
  | cons {v : Value} {x : V} {vs : List Value} {xs : List V} : SRep G v x → SRepL G vs xs → SRepL G (v :: vs) (x :: xs)
end

/-- Of an older ghost state all is kept that values of levels below L lean on. -/
structure GLe (G G' : Gh) : Prop where
  lv : G.lv ≤ G'.lv
  K : KLe G.K G'.K
  lam : ∀ l t b, l < G.lv → G.lam l t = some b → G'.lam l t = some b

theorem SRep.mono {G G' : Gh} (h : GLe G G') {v : Value} {x : V} (r : SRep G v x) : SRep G' v x := by
  refine SRep.rec (motive_1 := fun v x _ => SRep G' v x) (motive_2 := fun vs xs _ => SRepL G' vs xs) ?_ ?_ ?_ ?_ ?_ r
  · exact fun r => .data (r.mono h.K)
  · exact fun l t off b hl hb => .ptr l t off b (Nat.lt_of_lt_of_le hl h.lv) (h.lam l t b hl hb)
  · exact fun fn f c f' c' _ _ i1 i2 => .func fn f c f' c' i1 i2
  · exact .nil
  · exact fun _ _ i1 i2 => .cons i1 i2

theorem SRepL.mono {G G' : Gh} (h : GLe G G') : ∀ {vs : List Value} {xs : List V}, SRepL G vs xs → SRepL G' vs xs
  | _, _, .nil => .nil
  | _, _, .cons r rs => .cons (r.mono h) (SRepL.mono h rs)

theorem SRepL.length {G : Gh} : ∀ {vs : List Value} {xs : List V}, SRepL G vs xs → vs.length = xs.length
  | _, _, .nil => rfl
  | _, _, .cons _ rs => by simp [SRepL.length rs]

theorem SRepL.get {G : Gh} : ∀ {vs : List Value} {xs : List V}, SRepL G vs xs → ∀ {i : Nat} {x : V}, xs[i]? = some x → ∃ v, vs[i]? = some v ∧ SRep G v x
  | _, _, .nil, i, x, h => by simp at h
  | _, _, .cons r rs, 0, x, h => by simp at h; subst h; exact ⟨_, rfl, r⟩
  | _, _, .cons r rs, i + 1, x, h => by simpa using SRepL.get rs (i := i) (by simpa using h)

theorem SRepL.append {G : Gh} : ∀ {vs ws : List Value} {xs ys : List V}, SRepL G vs xs → SRepL G ws ys → SRepL G (vs ++ ws) (xs ++ ys)
  | _, _, _, _, .nil, h => h
  | _, _, _, _, .cons r rs, h => .cons r (SRepL.append rs h)

theorem SRepL.take {G : Gh} : ∀ {vs : List Value} {xs : List V}, SRepL G vs xs → ∀ n, SRepL G (vs.take n) (xs.take n)
  | _, _, .nil, n => by simp; exact .nil
  | _, _, .cons r rs, 0 => .nil
  | _, _, .cons r rs, n + 1 => by simp only [List.take_succ_cons]; exact .cons r (SRepL.take rs n)

theorem SRepL.drop {G : Gh} : ∀ {vs : List Value} {xs : List V}, SRepL G vs xs → ∀ n, SRepL G (vs.drop n) (xs.drop n)
  | _, _, .nil, n => by simp; exact .nil
  | _, _, .cons r rs, 0 => .cons r rs
  | _, _, .cons r rs, n + 1 => by simp only [List.drop_succ_cons]; exact SRepL.drop rs n

theorem SRep.strip {G : Gh} {v : Value} {x : V} (h : SRep G v x) : SRep G v x.strip := by
  cases h with
  | data r => exact .data r.strip
  | ptr l t off b hl hb => exact .ptr l t off b hl hb
  | func fn f c f' c' h1 h2 => exact .func fn f c f' c' h1 h2

/-- What a V that is no pointer and no closure stands for, it stands for in whatever frame. -/
theorem SRep.toRep {G : Gh} {v : Value} {x : V} (h : SRep G v x) (hx : isLocal x = false) : Rep G.K v x := by
  cases h with
  | data r => exact r
  | ptr l t off b hl hb => simp [isLocal] at hx
  | func fn f c f' c' h1 h2 =>
    simp [isLocal] at hx
    obtain ⟨rfl, rfl⟩ := hx
    cases h1; cases h2
    exact .func fn

structure BoxOK (G : Gh) (w : World) (l t : Nat) (cs : List V) : Prop where
  ex : ∃ (b : Nat) (cur : Array Value) (e : TypeId), G.lam l t = some b ∧ G.phi b = some (.box l t) ∧ w.heap[b]? = some (.cells cur e (0, 0)) ∧ SRepL G cur.toList cs ∧ ∀ o, G.K b o = none
  dc : ∀ c ∈ cs, dataCell l c = true

def OwnOK (G : Gh) (w : World) (l t sz : Nat) (xs : List V) (v : Value) : Prop :=
  (v = .slice none 0 0 ∧ xs = []) ∨
  ∃ g cap cur e, v = .slice (some ⟨g, 0, none⟩) xs.length cap ∧ G.phi g = some (.slot l t) ∧ w.heap[g]? = some (.cells cur e (0, 0)) ∧ cur.size = cap * sz ∧ xs.length ≤ cap ∧ cap ≤ maxLen ∧
    ∀ o, xs.length * sz ≤ o → G.K g o = none

structure Inv (G : Gh) (w : World) (M : Mem) : Prop where
  lv : G.lv = M.length
  kh : ∀ b o v, G.K b o = some v → w.cell? ⟨b, o, none⟩ = some v
  mem : ∀ l t cs, mget M l t = some cs → BoxOK G w l t cs
  lamBox : ∀ l t, l < M.length → mget M l t = none → G.lam l t = none
  lamL : ∀ l t b, G.lam l t = some b → b < w.heap.size
  phiL : ∀ b, G.phi b ≠ none → b < w.heap.size

structure Ext (L : Nat) (G0 : Gh) (w0 : World) (G : Gh) (w : World) : Prop where
  K : KLe G0.K G.K
  lam : ∀ l t, l < L → G.lam l t = G0.lam l t
  size : w0.heap.size ≤ w.heap.size
  os : w.os = w0.os
  tape : w.tape = w0.tape
  output : w.output = w0.output
  blk : ∀ b, b < w0.heap.size → (∀ l t, G0.phi b ≠ some (.box l t)) → w.heap[b]? = w0.heap[b]? ∧ (∀ o, G.K b o = G0.K b o) ∧ G.phi b = G0.phi b
  box : ∀ b l t, l < L → G0.phi b = some (.box l t) → G.phi b = some (.box l t)

theorem Ext.refl (L : Nat) (G : Gh) (w : World) : Ext L G w G w :=
  ⟨fun _ _ _ h => h, fun _ _ _ => rfl, Nat.le_refl _, rfl, rfl, rfl, fun _ _ _ => ⟨rfl, fun _ => rfl, rfl⟩, fun _ _ _ _ h => h⟩

/-- The frame's invariant: level L, N slots; (G0, w0): as the frame was entered. -/
structure FInv (G0 : Gh) (w0 : World) (L N : Nat) (G : Gh) (a : Act) (s : St) (w : World) : Prop where
  inv : Inv G w s.mem
  lvl : s.mem.length = L + 1
  size : a.tmps.size = N
  defers : a.defers = []
  slots : ∀ t, SRep G (a.tmps.getD t Go.undef) (get s.env t)
  own : ∀ t sz xs, get s.env t = .list sz xs true → OwnOK G w L t sz xs (a.tmps.getD t Go.undef)
  ext : Ext L G0 w0 G w
  fresh0 : ∀ b l t, G0.phi b = some (.slot l t) → l < L
  fresh : ∀ b l t, G.phi b = some (.slot l t) → l ≤ L

theorem FInv.ready {G0 : Gh} {w0 : World} {L N : Nat} {G : Gh} {a : Act} {s : St} {w w' : World} (h : FInv G0 w0 L N G a s w) (hh : w'.heap = w.heap) (ho : w'.os = w.os) (ht : w'.tape = w.tape)
    (hp : w'.output = w.output) : FInv G0 w0 L N G a s w' := by
  have hc : ∀ ad, w'.cell? ad = w.cell? ad := fun ad => by simp [World.cell?, hh]
  refine ⟨⟨h.inv.lv, fun b o v hv => by rw [hc]; exact h.inv.kh b o v hv, fun l t cs hm => ?_, h.inv.lamBox, by rw [hh]; exact h.inv.lamL, by rw [hh]; exact h.inv.phiL⟩, h.lvl, h.size, h.defers, h.slots, fun t sz xs hg => ?_, ⟨h.ext.K, h.ext.lam, by rw [hh]; exact h.ext.size, by rw [ho]; exact h.ext.os, by rw [ht]; exact h.ext.tape, by rw [hp]; exact h.ext.output, fun b hb hn => by rw [hh]; exact h.ext.blk b hb hn, h.ext.box⟩, h.fresh0, h.fresh⟩
  · obtain ⟨b, cur, e, h1, h2, h3, h4, h5⟩ := (h.inv.mem l t cs hm).ex
    exact ⟨⟨b, cur, e, h1, h2, by rw [hh]; exact h3, h4, h5⟩, (h.inv.mem l t cs hm).dc⟩
  · rcases h.own t sz xs hg with h1 | ⟨g, cap, cur, e, h1, h2, h3, h4⟩
    · exact .inl h1
    · exact .inr ⟨g, cap, cur, e, h1, h2, by rw [hh]; exact h3, h4⟩

end Go.Proofs.Ytgggjclhadlncaa.Ev

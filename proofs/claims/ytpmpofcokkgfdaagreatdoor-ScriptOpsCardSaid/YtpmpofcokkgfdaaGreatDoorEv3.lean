/- What the evaluator's values stand for in the model's memory: knowledge of cells, boxes, owned rows; the frame's invariant. -/
import Derived.Test.YtpmpofcokkgfdaaGreatDoorEv2
import Derived.Laws.AppendOwn
import Derived.Tactics
namespace Go.Proofs.YtpmpofcokkgfdaaGreatDoor.Ev
open Go

abbrev Know := Nat → Nat → Option Value

mutual
inductive Rep (K : Know) : Value → V → Prop
  | junk (v : Value) : Rep K v .junk
  | undef : Rep K Go.undef .undef
  | bool (b : Bool) : Rep K (.bool b) (.bool b)
  | int (k : IntKind) (n : Int) : Rep K (.int k n) (.int k n)
  | str (s : List UInt8) : Rep K (.string ⟨s.toArray⟩) (.str s)
  | fl (k : FloatKind) (b : Nat) : Rep K (.float k b) (.fl k b)
  | cx (k : FloatKind) (re im : Nat) : Rep K (.complex k re im) (.cx k re im)
  | lnil (sz : Nat) (own : Bool) : Rep K (.slice none 0 0) (.list sz [] own)
  | lemp (a : Addr) (cap sz : Nat) (own : Bool) : Rep K (.slice (some a) 0 cap) (.list sz [] own)
  | list (b o cap sz : Nat) (xs : List V) (own : Bool) (vs : List Value) : xs.length ≤ cap → (∀ x ∈ xs, x.cells.length = sz) → (∀ c ∈ flat xs, okc c = true) →
      (∀ i v, vs[i]? = some v → K b (o + i) = some v) → RepL K vs (flat xs) → Rep K (.slice (some ⟨b, o, none⟩) xs.length cap) (.list sz xs own)
  | agg (cs : List Value) (vs : List V) : (∀ c ∈ vs, okc c = true) → RepL K cs vs → Rep K (.agg cs.toArray) (.agg vs)
  | nilp : Rep K (.pointer none) .nilp
  | cptr (b o : Nat) (vs : List Value) (cs : List V) : (∀ c ∈ cs, okc c = true) → (∀ i v, vs[i]? = some v → K b (o + i) = some v) → RepL K vs cs →
      Rep K (.pointer (some ⟨b, o, none⟩)) (.cptr cs)
  | func (fn : Fn) : Rep K (.func fn #[] #[]) (.func fn [] [])
  | nilf : Rep K .nilFunc .nilf
  | mnil : Rep K (.map none) .mnil
  | ifnil : Rep K .nilIface (.ifc true)
  | iface (t : TypeId) (v : Value) : Rep K (.iface t v) (.ifc false)
  | nils (sz : Nat) : Rep K (.slice none 0 0) (.nils sz)
  | emp (a : Addr) (cap sz : Nat) : Rep K (.slice (some a) 0 cap) (.emp sz)
  | fnil (sz : Nat) : Rep K (.slice none 0 0) (.full sz [])
  | full (b o sz : Nat) (xs : List V) (vs : List Value) : (∀ x ∈ xs, x.cells.length = sz) → (∀ c ∈ flat xs, okc c = true) →
      (∀ i v, vs[i]? = some v → K b (o + i) = some v) → RepL K vs (flat xs) → Rep K (.slice (some ⟨b, o, none⟩) xs.length xs.length) (.full sz xs)
inductive RepL (K : Know) : List Value → List V → Prop
  | nil : RepL K [] []
  | cons {v : Value} {x : V} {vs : List Value} {xs : List V} : Rep K v x → RepL K vs xs → RepL K (v :: vs) (x :: xs)
end

def KLe (K K' : Know) : Prop := ∀ b o v, K b o = some v → K' b o = some v

theorem Rep.mono {K K' : Know} (h : KLe K K') {v : Value} {x : V} (r : Rep K v x) : Rep K' v x := by
  refine Rep.rec (motive_1 := fun v x _ => Rep K' v x) (motive_2 := fun vs xs _ => RepL K' vs xs) ?_ ?_ ?_ ?_ ?_ ?_ ?_ ?_ ?_ ?_ ?_ ?_ ?_ ?_ ?_ ?_ ?_ ?_ ?_ ?_ ?_ ?_ ?_ ?_ r
  · exact fun v => .junk v
  · exact .undef
  · exact fun b => .bool b
  · exact fun k n => .int k n
  · exact fun s => .str s
  · exact fun k b => .fl k b
  · exact fun k a b => .cx k a b
  · exact fun sz own => .lnil sz own
  · exact fun a cap sz own => .lemp a cap sz own
  · exact fun b o cap sz xs own vs h1 h2 h3 h4 _ ih => .list b o cap sz xs own vs h1 h2 h3 (fun i v hv => h _ _ _ (h4 i v hv)) ih
  · exact fun cs vs h1 _ ih => .agg cs vs h1 ih
  · exact .nilp
  · exact fun b o vs cs h1 h2 _ ih => .cptr b o vs cs h1 (fun i v hv => h _ _ _ (h2 i v hv)) ih
  · exact fun fn => .func fn
  · exact .nilf
  · exact .mnil
  · exact .ifnil
  · exact fun t v => .iface t v
  · exact fun sz => .nils sz
  · exact fun a cap sz => .emp a cap sz
  · exact fun sz => .fnil sz
  · exact fun b o sz xs vs h2 h3 h4 _ ih => .full b o sz xs vs h2 h3 (fun i v hv => h _ _ _ (h4 i v hv)) ih
  · exact .nil
  · exact fun _ _ ih1 ih2 => .cons ih1 ih2

theorem RepL.mono {K K' : Know} (h : KLe K K') : ∀ {vs : List Value} {xs : List V}, RepL K vs xs → RepL K' vs xs
  | _, _, .nil => .nil
  | _, _, .cons r rs => .cons (r.mono h) (RepL.mono h rs)

theorem RepL.length {K : Know} : ∀ {vs : List Value} {xs : List V}, RepL K vs xs → vs.length = xs.length
  | _, _, .nil => rfl
  | _, _, .cons _ rs => by simp [RepL.length rs]

theorem RepL.get {K : Know} : ∀ {vs : List Value} {xs : List V}, RepL K vs xs → ∀ {i : Nat} {x : V}, xs[i]? = some x → ∃ v, vs[i]? = some v ∧ Rep K v x
  | _, _, .nil, i, x, h => by simp at h
  | _, _, .cons r rs, 0, x, h => by simp at h; subst h; exact ⟨_, rfl, r⟩
  | _, _, .cons r rs, i + 1, x, h => by simpa using RepL.get rs (i := i) (by simpa using h)

theorem RepL.append {K : Know} : ∀ {vs ws : List Value} {xs ys : List V}, RepL K vs xs → RepL K ws ys → RepL K (vs ++ ws) (xs ++ ys)
  | _, _, _, _, .nil, h => h
  | _, _, _, _, .cons r rs, h => .cons r (RepL.append rs h)

theorem RepL.take {K : Know} : ∀ {vs : List Value} {xs : List V}, RepL K vs xs → ∀ n, RepL K (vs.take n) (xs.take n)
  | _, _, .nil, n => by simp; exact .nil
  | _, _, .cons r rs, 0 => .nil
  | _, _, .cons r rs, n + 1 => by simp only [List.take_succ_cons]; exact .cons r (RepL.take rs n)

theorem RepL.drop {K : Know} : ∀ {vs : List Value} {xs : List V}, RepL K vs xs → ∀ n, RepL K (vs.drop n) (xs.drop n)
  | _, _, .nil, n => by simp; exact .nil
  | _, _, .cons r rs, 0 => .cons r rs
  | _, _, .cons r rs, n + 1 => by simp only [List.drop_succ_cons]; exact RepL.drop rs n

theorem Rep.strip {K : Know} {v : Value} {x : V} (h : Rep K v x) : Rep K v x.strip := by
  cases h with
  | lnil sz own => exact .lnil sz false
  | lemp a cap sz own => exact .lemp a cap sz false
  | list b o cap sz xs own vs h1 h2 h3 h4 h5 => exact .list b o cap sz xs false vs h1 h2 h3 h4 h5
  | junk v => exact .junk v
  | undef => exact .undef
  | bool b => exact .bool b
  | int k n => exact .int k n
  | str s => exact .str s
  | fl k b => exact .fl k b
  | cx k a b => exact .cx k a b
  | agg cs vs h1 h2 => exact .agg cs vs h1 h2
  | nilp => exact .nilp
  | cptr b o vs cs h1 h2 h3 => exact .cptr b o vs cs h1 h2 h3
  | func fn => exact .func fn
  | nilf => exact .nilf
  | mnil => exact .mnil
  | ifnil => exact .ifnil
  | iface t v => exact .iface t v
  | nils sz => exact .nils sz
  | emp a cap sz => exact .emp a cap sz
  | fnil sz => exact .lnil sz false
  | full b o sz xs vs h2 h3 h4 h5 => exact .list b o xs.length sz xs false vs (Nat.le_refl _) h2 h3 h4 h5

theorem Rep.own {K : Know} {v : Value} {sz : Nat} {xs : List V} {o o' : Bool} (h : Rep K v (.list sz xs o)) : Rep K v (.list sz xs o') := by
  cases h with
  | lnil sz own => exact .lnil sz o'
  | lemp a cap sz own => exact .lemp a cap sz o'
  | list b o cap sz xs own vs h1 h2 h3 h4 h5 => exact .list b o cap sz xs o' vs h1 h2 h3 h4 h5

inductive Own where
  | box (l t : Nat)
  | slot (l t i : Nat)
  | cell (l t i : Nat)
  | ret (i : Nat)
  deriving DecidableEq

def isMem : Own → Bool
  | .box .. => true
  | .cell .. => true
  | _ => false

def lowOwn (L : Nat) : Own → Prop
  | .slot l _ _ => l < L
  | .ret _ => False
  | _ => True

/-- Ghost state: which cells are known for good, where the boxes lie (and how many cells there are), who owns which block. -/
structure Gh where
  lv : Nat
  K : Know
  lam : Nat → Nat → Option (Nat × Nat)
  phi : Nat → Option Own

mutual
inductive SRep (G : Gh) : Value → V → Prop
  | data {v : Value} {x : V} : Rep G.K v x → SRep G v x
  | ptr (l t off b n : Nat) : l < G.lv → l ≠ 1 → G.lam l t = some (b, n) → SRep G (.pointer (some ⟨b, off, none⟩)) (.ptr l t off)
  | slc (l t off sz len b n off' cap : Nat) : l < G.lv → l ≠ 1 → G.lam l t = some (b, n) → len ≤ cap ∧ cap ≤ maxLen → (cap = 0 ∨ (off' = off ∧ off + cap * sz = n)) →
      SRep G (.slice (some ⟨b, off', none⟩) len cap) (.slc l t off sz len)
  | mref (t b n : Nat) : 1 < G.lv → G.lam 1 t = some (b, n) → SRep G (.map (some b)) (.mref t)
  | iref (t b n : Nat) : 1 < G.lv → G.lam 1 t = some (b, n) → SRep G (.pointer (some ⟨b, 0, none⟩)) (.iref t)
  | func (fn : Fn) (f c : List Value) (f' c' : List V) : SRepL G f f' → SRepL G c c' → SRep G (.func fn f.toArray c.toArray) (.func fn f' c')
  | tup (cs : List Value) (vs : List V) : SRepL G cs vs → SRep G (.tuple cs.toArray) (.tup vs)
  | fptr (b n : Nat) : SRep G (.pointer (some ⟨b, 0, none⟩)) (.fptr n)
  | sagg (cs : List Value) (vs : List V) : (∀ c ∈ vs, sCell c = true) → SRepL G cs vs → SRep G (.agg cs.toArray) (.sagg vs)
inductive SRepL (G : Gh) : List Value → List V → Prop
  | nil : SRepL G [] []
  | cons {v : Value} {x : V} {vs : List Value} {xs : List V} : SRep G v x → SRepL G vs xs → SRepL G (v :: vs) (x :: xs)
end

/-- Of an older ghost state all is kept that values of levels below L lean on. -/
structure GLe (G G' : Gh) : Prop where
  lv : G.lv ≤ G'.lv
  K : KLe G.K G'.K
  lam : ∀ l t p, l < G.lv → G.lam l t = some p → G'.lam l t = some p

theorem SRep.mono {G G' : Gh} (h : GLe G G') {v : Value} {x : V} (r : SRep G v x) : SRep G' v x := by
  refine SRep.rec (motive_1 := fun v x _ => SRep G' v x) (motive_2 := fun vs xs _ => SRepL G' vs xs) ?_ ?_ ?_ ?_ ?_ ?_ ?_ ?_ ?_ ?_ ?_ r
  · exact fun r => .data (r.mono h.K)
  · exact fun l t off b n hl h1 hb => .ptr l t off b n (Nat.lt_of_lt_of_le hl h.lv) h1 (h.lam l t _ hl hb)
  · exact fun l t off sz len b n off' cap hl h1 hb h2 h3 => .slc l t off sz len b n off' cap (Nat.lt_of_lt_of_le hl h.lv) h1 (h.lam l t _ hl hb) h2 h3
  · exact fun t b n hl hb => .mref t b n (Nat.lt_of_lt_of_le hl h.lv) (h.lam 1 t _ hl hb)
  · exact fun t b n hl hb => .iref t b n (Nat.lt_of_lt_of_le hl h.lv) (h.lam 1 t _ hl hb)
  · exact fun fn f c f' c' _ _ i1 i2 => .func fn f c f' c' i1 i2
  · exact fun cs vs _ i => .tup cs vs i
  · exact fun b n => .fptr b n
  · exact fun cs vs h _ i => .sagg cs vs h i
  · exact .nil
  · exact fun _ _ i1 i2 => .cons i1 i2

theorem SRepL.mono {G G' : Gh} (h : GLe G G') : ∀ {vs : List Value} {xs : List V}, SRepL G vs xs → SRepL G' vs xs
  | _, _, .nil => .nil
  | _, _, .cons r rs => .cons (r.mono h) (SRepL.mono h rs)

theorem SRepL.length {G : Gh} : ∀ {vs : List Value} {xs : List V}, SRepL G vs xs → vs.length = xs.length
  | _, _, .nil => rfl
  | _, _, .cons _ rs => by simp [SRepL.length rs]

theorem SRepL.get {G : Gh} : ∀ {vs : List Value} {xs : List V}, SRepL G vs xs → ∀ {i : Nat} {x : V}, xs[i]? = some x → ∃ v, vs[i]? = some v ∧ SRep G v x
  | _, _, .nil, i, x, h => by simp at h
  | _, _, .cons r rs, 0, x, h => by simp at h; subst h; exact ⟨_, rfl, r⟩
  | _, _, .cons r rs, i + 1, x, h => by simpa using SRepL.get rs (i := i) (by simpa using h)

theorem SRepL.append {G : Gh} : ∀ {vs ws : List Value} {xs ys : List V}, SRepL G vs xs → SRepL G ws ys → SRepL G (vs ++ ws) (xs ++ ys)
  | _, _, _, _, .nil, h => h
  | _, _, _, _, .cons r rs, h => .cons r (SRepL.append rs h)

theorem SRepL.take {G : Gh} : ∀ {vs : List Value} {xs : List V}, SRepL G vs xs → ∀ n, SRepL G (vs.take n) (xs.take n)
  | _, _, .nil, n => by simp; exact .nil
  | _, _, .cons r rs, 0 => .nil
  | _, _, .cons r rs, n + 1 => by simp only [List.take_succ_cons]; exact .cons r (SRepL.take rs n)

theorem SRepL.drop {G : Gh} : ∀ {vs : List Value} {xs : List V}, SRepL G vs xs → ∀ n, SRepL G (vs.drop n) (xs.drop n)
  | _, _, .nil, n => by simp; exact .nil
  | _, _, .cons r rs, 0 => .cons r rs
  | _, _, .cons r rs, n + 1 => by simp only [List.drop_succ_cons]; exact SRepL.drop rs n

theorem SRepL.set {G : Gh} : ∀ {vs : List Value} {xs : List V}, SRepL G vs xs → ∀ (n : Nat) {v : Value} {x : V}, SRep G v x → SRepL G (vs.set n v) (xs.set n x)
  | _, _, .nil, n, _, _, _ => by simp; exact .nil
  | _, _, .cons r rs, 0, _, _, h => .cons h rs
  | _, _, .cons r rs, n + 1, _, _, h => .cons r (SRepL.set rs n h)

theorem SRep.strip1 {G : Gh} {v : Value} {x : V} (h : SRep G v x) : SRep G v x.strip1 := by
  cases x with
  | list sz xs o =>
    cases h with
    | data r => exact .data r.strip
  | full sz xs =>
    cases h with
    | data r => exact .data r.strip
  | fptr n => exact .data (.junk _)
  | _ => exact h

theorem SRepL.strip1 {G : Gh} : ∀ {vs : List Value} {xs : List V}, SRepL G vs xs → SRepL G vs (xs.map V.strip1)
  | _, _, .nil => .nil
  | _, _, .cons r rs => .cons r.strip1 (SRepL.strip1 rs)

theorem SRep.strip {G : Gh} {v : Value} {x : V} (h : SRep G v x) : SRep G v x.strip := by
  cases h with
  | data r => exact .data r.strip
  | ptr l t off b n hl h1 hb => exact .ptr l t off b n hl h1 hb
  | slc l t off sz len b n off' cap hl h1 hb h2 h3 => exact .slc l t off sz len b n off' cap hl h1 hb h2 h3
  | mref t b n hl hb => exact .mref t b n hl hb
  | iref t b n hl hb => exact .iref t b n hl hb
  | func fn f c f' c' h1 h2 => exact .func fn f c f' c' h1 h2
  | tup cs vs h => exact .tup cs _ h.strip1
  | fptr b n => exact .data (.junk _)
  | sagg cs vs h1 h => exact .sagg cs vs h1 h

/-- What a V that is no pointer and no closure stands for, it stands for in whatever frame. -/
theorem SRep.toRep {G : Gh} {v : Value} {x : V} (h : SRep G v x) (hx : isLocal x = false) : Rep G.K v x := by
  cases h with
  | data r => exact r
  | func fn f c f' c' h1 h2 =>
    simp [isLocal] at hx
    obtain ⟨rfl, rfl⟩ := hx
    cases h1; cases h2
    exact .func fn
  | _ => simp [isLocal] at hx

/-- A value's part: itself, or a place of a tuple. -/
def comp : Value → Nat → Value
  | v, 0 => v
  | .tuple vs, i + 1 => vs.getD i Go.undef
  | v, _ => v

/-- The rows that a V owns: itself, or places of a tuple. -/
def claim : V → Nat → Option (Nat × List V)
  | .list sz xs true, 0 => some (sz, xs)
  | .fptr n, 0 => some (n, [])
  | .tup vs, i + 1 => match vs[i]? with
    | some (.list sz xs true) => some (sz, xs)
    | _ => none
  | _, _ => none

/-- No cell of so many is frozen. -/
def noFz (fz : Nat × Nat) (n : Nat) : Prop := fz = (0, 0) ∨ n ≤ fz.1

def OwnOK (G : Gh) (w : World) (o : Own) (sz : Nat) (xs : List V) (v : Value) : Prop :=
  (xs = [] ∧ ∃ base, v = .slice base 0 0) ∨
  ∃ g cap cur e fz, (v = .slice (some ⟨g, 0, none⟩) xs.length cap ∨ (v = .pointer (some ⟨g, 0, none⟩) ∧ xs = [] ∧ cap = 1 ∧ fz = (0, 0))) ∧ G.phi g = some o ∧ w.heap[g]? = some (.cells cur e fz) ∧ noFz fz cur.size ∧ cur.size = cap * sz ∧ xs.length ≤ cap ∧ cap ≤ maxLen ∧
    ∀ o, xs.length * sz ≤ o → G.K g o = none

def Claims (G : Gh) (w : World) (f : Nat → Own) (v : Value) (x : V) : Prop := ∀ i sz xs, claim x i = some (sz, xs) → OwnOK G w (f i) sz xs (comp v i)

def noClaim (x : V) : Prop := ∀ i, claim x i = none

theorem Claims.none {G : Gh} {w : World} {f : Nat → Own} {v : Value} {x : V} (h : noClaim x) : Claims G w f v x := fun i sz xs hc => by rw [h i] at hc; cases hc

theorem noClaim_strip (x : V) : noClaim x.strip := by
  intro i
  cases x with
  | list sz xs o => cases i <;> rfl
  | tup vs =>
    cases i with
    | zero => rfl
    | succ i =>
      simp only [V.strip, claim, List.getElem?_map]
      cases h : vs[i]? with
      | none => rfl
      | some y =>
        simp only [Option.map_some]
        cases y <;> rfl
  | _ => cases i <;> rfl

theorem noClaim_strip1 {x : V} (hx : ∀ vs, x ≠ .tup vs) : noClaim x.strip1 := by
  intro i
  cases x with
  | tup vs => exact absurd rfl (hx vs)
  | list sz xs o => cases i <;> rfl
  | _ => cases i <;> rfl

theorem noClaim_of {x : V} (h1 : ∀ sz xs, x ≠ .list sz xs true) (h2 : ∀ vs, x ≠ .tup vs) (h3 : ∀ n, x ≠ .fptr n) : noClaim x := by
  intro i
  cases x with
  | fptr n => exact absurd rfl (h3 n)
  | tup vs => exact absurd rfl (h2 vs)
  | list sz xs o =>
    cases o
    · cases i <;> rfl
    · exact absurd rfl (h1 sz xs)
  | _ => cases i <;> rfl

structure CellsOK (G : Gh) (w : World) (l t : Nat) (cs : List V) : Prop where
  ex : ∃ (b : Nat) (cur : Array Value) (e : TypeId) (fz : Nat × Nat), G.lam l t = some (b, cur.size) ∧ G.phi b = some (.box l t) ∧ (w.heap[b]? = some (.cells cur e fz) ∧ noFz fz cur.size) ∧ cs.length ≤ cur.size ∧
    SRepL G (cur.toList.take cs.length) cs ∧ (∀ o, G.K b o = none) ∧ ∀ i sz xs v, cs[i]? = some (.list sz xs true) → cur[i]? = some v → OwnOK G w (.cell l t i) sz xs v
  dc : ∀ c ∈ cs, dataCell l c = true

/-- A map's entries; a text's runes. -/
def ObjIs (G : Gh) (o : Option Obj) (cs : List V) : Prop :=
  (∃ (kd : Option IntKind) (ks vs : List V) (es : Array MapEntry), cs = [.mapv kd ks vs] ∧ o = some (.map es es.size) ∧ (∀ (i : Nat) (e : MapEntry), es[i]? = some e → e.born = i) ∧ RepL G.K (es.toList.map (·.key)) ks ∧ RepL G.K (es.toList.map (·.val)) vs ∧ (∀ k ∈ ks, isKey kd k = true) ∧ (∀ v ∈ vs, data v = true)) ∨
  (∃ (s : List UInt8) (pos : Nat), cs = [.siter s pos] ∧ o = some (.stringIter ⟨s.toArray⟩ pos))

structure ObjOK (G : Gh) (w : World) (t : Nat) (cs : List V) : Prop where
  ex : ∃ b n, G.lam 1 t = some (b, n) ∧ G.phi b = some (.box 1 t) ∧ (∀ o, G.K b o = none) ∧ ObjIs G w.heap[b]? cs

def BoxOK (G : Gh) (w : World) (l t : Nat) (cs : List V) : Prop := (l ≠ 1 → CellsOK G w l t cs) ∧ (l = 1 → ObjOK G w t cs)

structure Inv (G : Gh) (w : World) (M : Mem) : Prop where
  lv : G.lv = M.length
  two : 2 ≤ M.length
  kh : ∀ b o v, G.K b o = some v → w.cell? ⟨b, o, none⟩ = some v
  mem : ∀ l t cs, mget M l t = some cs → BoxOK G w l t cs
  lamBox : ∀ l t, l < M.length → mget M l t = none → G.lam l t = none
  lamL : ∀ l t p, G.lam l t = some p → p.1 < w.heap.size
  phiL : ∀ b, G.phi b ≠ none → b < w.heap.size

structure Ext (L : Nat) (G0 : Gh) (w0 : World) (G : Gh) (w : World) : Prop where
  K : KLe G0.K G.K
  lam : ∀ l t p, l < L → G0.lam l t = some p → G.lam l t = some p
  size : w0.heap.size ≤ w.heap.size
  os : w.os = w0.os
  tape : w.tape = w0.tape
  output : w.output = w0.output
  blk : ∀ b, b < w0.heap.size → (∀ o, G0.phi b = some o → isMem o = false) → w.heap[b]? = w0.heap[b]? ∧ (∀ o, G.K b o = G0.K b o) ∧ G.phi b = G0.phi b
  box : ∀ b l t, l < L → G0.phi b = some (.box l t) → G.phi b = some (.box l t)

theorem Ext.refl (L : Nat) (G : Gh) (w : World) : Ext L G w G w :=
  ⟨fun _ _ _ h => h, fun _ _ _ _ h => h, Nat.le_refl _, rfl, rfl, rfl, fun _ _ _ => ⟨rfl, fun _ => rfl, rfl⟩, fun _ _ _ _ h => h⟩

/-- The frame's invariant: level L, N slots; (G0, w0): as the frame was entered. -/
structure FInv (G0 : Gh) (w0 : World) (L N : Nat) (G : Gh) (a : Act) (s : St) (w : World) : Prop where
  inv : Inv G w s.mem
  lvl : s.mem.length = L + 1
  two : 2 ≤ L
  size : a.tmps.size = N
  defers : a.defers = []
  slots : ∀ t, SRep G (a.tmps.getD t Go.undef) (get s.env t)
  own : ∀ t, Claims G w (.slot L t) (a.tmps.getD t Go.undef) (get s.env t)
  ext : Ext L G0 w0 G w
  fresh0 : ∀ b o, G0.phi b = some o → lowOwn L o
  fresh : ∀ b o, G.phi b = some o → lowOwn (L + 1) o

theorem OwnOK.ready {G : Gh} {w w' : World} (hh : w'.heap = w.heap) {o : Own} {sz : Nat} {xs : List V} {v : Value} (h : OwnOK G w o sz xs v) : OwnOK G w' o sz xs v := by
  rcases h with h1 | ⟨g, cap, cur, e, fz, h1, h2, h3, h4⟩
  · exact .inl h1
  · exact .inr ⟨g, cap, cur, e, fz, h1, h2, by rw [hh]; exact h3, h4⟩

theorem BoxOK.ready {G : Gh} {w w' : World} (hh : w'.heap = w.heap) {l t : Nat} {cs : List V} (h : BoxOK G w l t cs) : BoxOK G w' l t cs := by
  refine ⟨fun hl => ?_, fun hl => ?_⟩
  · obtain ⟨⟨b, cur, e, fz, h1, h2, h3, h4, h5, h6, h7⟩, hd⟩ := h.1 hl
    exact ⟨⟨b, cur, e, fz, h1, h2, by rw [hh]; exact h3, h4, h5, h6, fun i sz xs v hc hv => (h7 i sz xs v hc hv).ready hh⟩, hd⟩
  · obtain ⟨b, n, h1, h2, h3, h4⟩ := (h.2 hl).ex
    exact ⟨b, n, h1, h2, h3, by rw [hh]; exact h4⟩

theorem FInv.ready {G0 : Gh} {w0 : World} {L N : Nat} {G : Gh} {a : Act} {s : St} {w w' : World} (h : FInv G0 w0 L N G a s w) (hh : w'.heap = w.heap) (ho : w'.os = w.os) (ht : w'.tape = w.tape)
    (hp : w'.output = w.output) : FInv G0 w0 L N G a s w' := by
  have hc : ∀ ad, w'.cell? ad = w.cell? ad := fun ad => by simp [World.cell?, hh]
  exact ⟨⟨h.inv.lv, h.inv.two, fun b o v hv => by rw [hc]; exact h.inv.kh b o v hv, fun l t cs hm => (h.inv.mem l t cs hm).ready hh, h.inv.lamBox, by rw [hh]; exact h.inv.lamL, by rw [hh]; exact h.inv.phiL⟩, h.lvl, h.two, h.size, h.defers, h.slots,
    fun t i sz xs hg => (h.own t i sz xs hg).ready hh, ⟨h.ext.K, h.ext.lam, by rw [hh]; exact h.ext.size, by rw [ho]; exact h.ext.os, by rw [ht]; exact h.ext.tape, by rw [hp]; exact h.ext.output, fun b hb hn => by rw [hh]; exact h.ext.blk b hb hn, h.ext.box⟩, h.fresh0, h.fresh⟩

end Go.Proofs.YtpmpofcokkgfdaaGreatDoor.Ev

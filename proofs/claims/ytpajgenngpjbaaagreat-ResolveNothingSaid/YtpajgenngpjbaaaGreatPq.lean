import Derived.Shelf.Small.Strs
import Derived.Shelf.Strings.Search1
import Derived.Test.YtpajgenngpjbaaaGreatProg
import Derived.Test.YtpajgenngpjbaaaGreatEv13
import Derived.Test.YtpajgenngpjbaaaGreatTab
import Derived.Below
/- The library contract of strings.IndexByte at this dump (printed by the kit in plain words). -/
namespace Go.Proofs
open Go.Shelf
def Tryz.lays137_ren : Go.Shelf.Ren := ⟨fun | 137 => 147 | 217 => 176 | 266 => 192 | n => n, fun | 9 => 9 | 5 => 5 | 3 => 3 | n => n, fun | n => n⟩
theorem Tryz.lays137 : Go.Proofs.Lays.n137 Tryz.prog Tryz.lays137_ren := {
  mixed := by kernel_rfl
  f137 := Tryz.func147.trans (congrArg some (by kernel_rfl))
  f217 := Tryz.func176.trans (congrArg some (by kernel_rfl))
  f266 := Tryz.func192.trans (congrArg some (by kernel_rfl))
  t3 := Tryz.underlying3
  a3 := Tryz.isAgg3
  z3 := Tryz.sizeOf3
  v3 := Tryz.zeroValue3
  t5 := Tryz.underlying5
  a5 := Tryz.isAgg5
  z5 := Tryz.sizeOf5
  v5 := Tryz.zeroValue5
  t9 := Tryz.underlying9
  a9 := Tryz.isAgg9
  z9 := Tryz.sizeOf9
  v9 := Tryz.zeroValue9 }
open Go.RowKit in
/-- strings.IndexByte: "IndexByte returns the index of the first instance of c in s, or -1 if c is not present in s.": IT RETURNS 'Lib.indexByte s c'; the world is as it was. (LAID: no walk: one application.) -/
theorem Tryz.strings_IndexByte (s : ByteArray) (c : Int) (w : World) :
    Calls Tryz.prog 147 #[.string s, .int .u8 c] w fun e w' => e = .returned (.int .i64 (Lib.indexByte s.data.toList c.toNat.toUInt8)) ∧ w' = w := Any.strings_IndexByte Tryz.lays137 s c w
def Tryz.lays217_ren : Go.Shelf.Ren := ⟨fun | 217 => 176 | 266 => 192 | n => n, fun | 9 => 9 | 5 => 5 | 3 => 3 | n => n, fun | n => n⟩
theorem Tryz.lays217 : Go.Proofs.Lays.n217 Tryz.prog Tryz.lays217_ren := {
  mixed := by kernel_rfl
  f217 := Tryz.func176.trans (congrArg some (by kernel_rfl))
  f266 := Tryz.func192.trans (congrArg some (by kernel_rfl))
  t3 := Tryz.underlying3
  a3 := Tryz.isAgg3
  z3 := Tryz.sizeOf3
  v3 := Tryz.zeroValue3
  t5 := Tryz.underlying5
  a5 := Tryz.isAgg5
  z5 := Tryz.sizeOf5
  v5 := Tryz.zeroValue5
  t9 := Tryz.underlying9
  a9 := Tryz.isAgg9
  z9 := Tryz.sizeOf9
  v9 := Tryz.zeroValue9 }
open Go.RowKit Go.Lib in
/-- internal/stringslite.IndexByte (what strings.IndexByte calls): IT RETURNS 'Lib.indexByte s c'; the world is as it was. (LAID: no walk: one application.) -/
theorem Tryz.stringslite_IndexByte (s : ByteArray) (c : Int) (w : World) :
    Calls Tryz.prog 176 #[.string s, .int .u8 c] w fun e w' => e = .returned (.int .i64 (Lib.indexByte s.data.toList c.toNat.toUInt8)) ∧ w' = w := Any.stringslite_IndexByte Tryz.lays217 s c w
end Go.Proofs

/- The library's functions that are taken by contract: strings.IndexByte; slices.Clone, of which the evaluator does not know whether an empty slice is nil; slices.SortFunc of classes by name; slices.Sorted of a map's keys. -/
namespace Go.Proofs.YtpajgenngpjbaaaGreat.Ev
open Go

/-- Texts in order, each where it comes. -/
def sortT (l : List (List UInt8)) : List (List UInt8) := l.mergeSort fun x y => decide (x ≤ y)
def strsOf : List V → Option (List (List UInt8))
  | [] => some []
  | .str s :: r => (strsOf r).map fun l => s :: l
  | _ => none
/-- A map's keys, in order. -/
def keysP (m : Mem) (k : Nat) : Option V :=
  (mget m 0 k).bind fun cs => match cs with
  | [.mref t] => (mget m 1 t).bind fun es => match es with
    | [.mapv none ks _] => (strsOf ks).bind fun l => if l.length ≤ 1000000 ∧ l.Nodup ∧ (∀ s ∈ l, s.length ≤ maxLen) then some (.list 1 ((sortT l).map V.str) true) else none
    | _ => none
  | _ => none
def rowName : V → List UInt8
  | .agg (.str s :: _) => s
  | _ => []
def rowStr : V → Bool
  | .agg [.str _, .str _, .bool _, .bool _, .list _ _ _, .list _ _ _, .list _ _ _] => true
  | _ => false
/-- Rows in the order of their names. -/
def sortRows (l : List V) : List V := l.mergeSort fun x y => decide (rowName x ≤ rowName y)
def sortP (m : Mem) (t n : Nat) : Option (V × Mem) :=
  (mget m 0 t).bind fun cs => if cs ≠ [] ∧ cs.length = n * 7 ∧ cs.all okc = true ∧ n ≤ 1000000 ∧ (chunk 7 n cs).all rowStr = true ∧ ((chunk 7 n cs).map rowName).Nodup then
    some (.tup [], mput m 0 t (flat (sortRows (chunk 7 n cs)))) else none

/-- A copy of methods, into which is written. -/
def cloneM (xs : List V) (m : Mem) : Option (V × Mem) := match xs with
  | [] => some (.list 8 [] true, m)
  | x :: r => (mnew 0 (flat (x :: r)) m).map fun (k, m') => (.slc 0 k 0 8 (r.length + 1), m')
def prim : CallF := fun f xs m =>
  match f, xs with
  | 147, [.str s, .int .u8 c] => some (.int .i64 (Lib.indexByte s c.toNat.toUInt8), m)
  | 83, [.list 1 xs _] => if xs.length * 16 ≤ 140737488355328 then some (.list 1 xs true, m) else none
  | 84, [.list 3 xs _] => if xs.length * 40 ≤ 140737488355328 then some (.list 3 xs true, m) else none
  | 85, [.list 8 xs _] => if xs.length * 104 ≤ 140737488355328 then cloneM xs m else none
  | 105, [.list 6 xs _] => if xs.length * 72 ≤ 140737488355328 then some (.list 6 xs true, m) else none
  | 106, [.list 4 xs _] => if xs.length * 40 ≤ 140737488355328 then some (.list 4 xs true, m) else none
  | 55, [.func (.func 99) [] [.ptr 0 k 0]] => (keysP m k).map fun v => (v, m)
  | 42, [.slc 0 t 0 7 n, .func (.func 43) [] []] => sortP m t n
  | _, _ => none

end Go.Proofs.YtpajgenngpjbaaaGreat.Ev

/- A box of the arena's is written anew, while the world grows (what a library's function does to it). -/
namespace Go.Proofs.YtpajgenngpjbaaaGreat.Ev
open Go

theorem inv_row {G : Gh} {w w' : World} {M : Mem} {l0 t0 b : Nat} {cs cs' : List V} {cur cur' : Array Value} {e : TypeId} {fz : Nat × Nat} (hI : Inv G w M) (hl1 : l0 ≠ 1) (hm : mget M l0 t0 = some cs)
    (hlam : G.lam l0 t0 = some (b, cur.size)) (hphi : G.phi b = some (.box l0 t0)) (hheap : w.heap[b]? = some (.cells cur e fz)) (hfz : noFz fz cur.size) (hKn : ∀ o, G.K b o = none)
    (hoh : ∀ b', b' < w.heap.size → b' ≠ b → w'.heap[b']? = w.heap[b']?) (hsz : w.heap.size ≤ w'.heap.size) (ho : w'.os = w.os) (ht : w'.tape = w.tape) (hp : w'.output = w.output)
    (hnew : w'.heap[b]? = some (.cells cur' e fz)) (hcs : cur'.size = cur.size) (hle : cs'.length ≤ cur.size) (hrep : SRepL G (cur'.toList.take cs'.length) cs') (hok : ∀ c ∈ cs', okc c = true) (hdc : ∀ c ∈ cs', dataCell l0 c = true) :
    Inv G w' (mput M l0 t0 cs') ∧ Ext M.length G w G w' := by
  have hb := hI.lamL _ _ _ hlam
  have hlt : l0 < M.length := by
    rcases Nat.lt_or_ge l0 M.length with h' | h'
    · exact h'
    · rw [mget_none _ _ _ h'] at hm; cases hm
  have c : Chg (fun b' => b' = b) G w G w' := ⟨rfl, fun _ _ _ h => h, fun _ _ _ h => h, hsz, ho, ht, hp, fun b' h1 hne => ⟨hoh b' h1 hne, fun _ => rfl, rfl⟩⟩
  refine ⟨⟨by rw [mput_length]; exact hI.lv, by rw [mput_length]; exact hI.two, fun b' i v hv => ?_, fun l t q hq => ?_, fun l t hl hq => ?_, fun l t p hl => ?_, fun b' hb' => ?_⟩, ?_⟩
  · have hne : b' ≠ b := by rintro rfl; rw [hKn] at hv; cases hv
    have h1 := hI.kh b' i v hv
    have hlt' : b' < w.heap.size := by
      obtain ⟨c', e', fr, hh, _⟩ := show ∃ c e fr, w.heap[b']? = some (.cells c e fr) ∧ c[i]? = some v by
        unfold World.cell? at h1
        split at h1
        · rename_i c e fr hb; exact ⟨c, e, fr, hb, by simpa using h1⟩
        · simp at h1
      exact heap_lt hh
    rw [cell_same (hoh b' hlt' hne)]; exact h1
  · rw [mget_mput _ _ _ _ _ _ hlt] at hq
    by_cases hlt' : l = l0 ∧ t = t0
    · obtain ⟨rfl, rfl⟩ := hlt'
      simp only [and_self, if_true, Option.some.injEq] at hq
      subst hq
      refine ⟨fun _ _ => ⟨⟨b, cur', e, fz, by rw [hlam, hcs], hphi, ⟨hnew, by rw [hcs]; exact hfz⟩, by rw [hcs]; exact hle, hrep, hKn, fun i sz xs v hc _ => ?_⟩, hdc⟩, fun h1 => absurd h1 hl1⟩
      have := hok _ (List.mem_of_getElem? hc)
      simp [okc, V.isOwn] at this
    · rw [if_neg hlt'] at hq
      refine c.box hI.lamL (hI.mem l t q hq) (fun b' hp' _ hf => ?_)
      subst hf
      rw [hphi] at hp'
      rcases hp' with hp' | ⟨i, hp'⟩
      · cases hp'; exact hlt' ⟨rfl, rfl⟩
      · cases hp'
  · rw [mget_mput _ _ _ _ _ _ hlt] at hq
    split at hq
    · cases hq
    · exact hI.lamBox l t (by rw [mput_length] at hl; exact hl) hq
  · exact Nat.lt_of_lt_of_le (hI.lamL l t p hl) hsz
  · exact Nat.lt_of_lt_of_le (hI.phiL b' hb') hsz
  · refine c.ext (Ext.refl _ _ _) (fun b' hb' hn hf => ?_) (fun _ _ _ _ h1 _ => h1)
    subst hf
    have := hn _ hphi
    simp [isMem] at this
end Go.Proofs.YtpajgenngpjbaaaGreat.Ev

/- A library's function that hands back a new row. -/
namespace Go.Proofs.YtpajgenngpjbaaaGreat.Ev
open Go Go.RowKit

theorem flat_ones : ∀ {ys : List V}, (∀ y ∈ ys, okc y = true) → flat ys = ys
  | [], _ => rfl
  | y :: r, h => by
    rw [flat, okc_cells (h y (by simp)), flat_ones fun z hz => h z (by simp [hz])]
    rfl
theorem below_keep {G : Gh} {w w' : World} {M : Mem} (hI : Inv G w M) (hb : Below w.heap.size w w') : Inv G w' M ∧ ∀ L, Ext L G w G w' := by
  have c : Chg (fun _ => False) G w G w' := ⟨rfl, fun _ _ _ h => h, fun _ _ _ h => h, hb.size, hb.os, hb.tape, hb.output, fun b hlt _ => ⟨hb.block b hlt, fun _ => rfl, rfl⟩⟩
  refine ⟨⟨hI.lv, hI.two, fun b o v hv => ?_, fun l t cs hm => c.box hI.lamL (hI.mem l t cs hm) (fun _ _ _ hf => hf), hI.lamBox, fun l t p hl => Nat.lt_of_lt_of_le (hI.lamL l t p hl) hb.size, fun b hb' => Nat.lt_of_lt_of_le (hI.phiL b hb') hb.size⟩, fun L => c.ext (Ext.refl _ _ _) (fun _ _ _ hf => hf) (fun _ _ _ _ _ h => h)⟩
  rw [cell_same (hb.block b (kh_lt hI.kh hv))]
  exact hI.kh b o v hv
/-- A new row, nil where it is empty, in a world that only grew. -/
theorem prim_rowB [Base] {P : Program} {f : Nat} {xs : List V} {M : Mem} {ys : List V} (hc : callable P f = true) (hone : ∀ y ∈ ys, okc y = true)
    (h : ∀ (G : Gh) (w : World) (cargs : Array Value), Inv G w M → BaseOK G w → SRepL G cargs.toList xs → Calls P f cargs w fun e w' => Below w.heap.size w w' ∧
      ((e = .returned (.slice none 0 0) ∧ ys = []) ∨ ∃ g cap cur t, e = .returned (.slice (some ⟨g, 0, none⟩) ys.length cap) ∧ w.heap.size ≤ g ∧ w'.heap[g]? = some (.cells cur t (0, 0)) ∧ ys.length ≤ cap ∧ cap ≤ maxLen ∧ cur.size = cap ∧ RepL G.K (cur.toList.take ys.length) ys)) :
    CallsOK P f xs M (.list 1 ys true) M := by
  refine ⟨hc, fun G w cargs hI hB hl hr => (h G w cargs hI hB hr).mono ?_⟩
  rintro e w' ⟨hb, ⟨rfl, rfl⟩ | ⟨g, cap, cur, t, rfl, hg, hh, hle, hcap, hsz, hrep⟩⟩
  · obtain ⟨i1, i2⟩ := below_keep hI hb
    refine ⟨_, G, rfl, .data (.lnil 1 true), i1, i2 _, fun b o hb => .inl (hl b o hb), rfl, fun i sz xs hcl => ?_⟩
    cases i with
    | succ i => cases hcl
    | zero => cases hcl; exact .inl ⟨rfl, none, rfl⟩
  · have hgl := heap_lt hh
    have c : Chg (fun _ => False) G w (G.fresh g ys.length cur (.ret 0)) w' := by
      refine ⟨rfl, fun b i v hv => ?_, fun _ _ _ h => h, hb.size, hb.os, hb.tape, hb.output, fun b hlt _ => ⟨hb.block b hlt, fun i => ?_, ?_⟩⟩
      · have hlt := kh_lt hI.kh hv
        show (if b = g then _ else _) = _
        rw [if_neg (by omega)]; exact hv
      · show (if b = g then _ else _) = _
        rw [if_neg (by omega)]
      · show (if b = g then _ else _) = _
        rw [if_neg (by omega)]
    refine ⟨_, G.fresh g ys.length cur (.ret 0), rfl, .data ?_, ⟨hI.lv, hI.two, fun b i v hv => ?_, fun l t cs hm => c.box hI.lamL (hI.mem l t cs hm) (fun _ _ _ hf => hf), hI.lamBox, fun l t b hl => Nat.lt_of_lt_of_le (hI.lamL l t b hl) hb.size, fun b hb' => ?_⟩,
      c.ext (Ext.refl _ _ _) (fun _ _ _ hf => hf) (fun b l t _ h0 h1 => ?_), fun b o hb' => ?_, rfl, fun i sz xs hcl => ?_⟩
    · refine .list _ _ _ _ _ _ (cur.toList.take ys.length) hle (fun x hx => by rw [okc_cells (hone x hx)]; rfl) (by rw [flat_ones hone]; exact hone) (fun i v hv => ?_) ?_
      · show (if g = g then _ else _) = _
        rw [if_pos rfl]
        rw [List.getElem?_take] at hv
        split at hv
        · rename_i hi
          rw [if_pos (by omega), Nat.zero_add]
          simpa using hv
        · cases hv
      · rw [flat_ones hone]
        exact hrep.mono c.K
    · replace hv : (if b = g then (if i < ys.length then cur[i]? else none) else G.K b i) = some v := hv
      by_cases hbg : b = g
      · subst hbg
        simp only [if_true] at hv
        split at hv
        · rw [cell_of_heap hh]; exact hv
        · cases hv
      · rw [if_neg hbg] at hv
        rw [cell_same (hb.block b (kh_lt hI.kh hv))]
        exact hI.kh b i v hv
    · by_cases hbg : b = g
      · subst hbg; exact hgl
      · have : G.phi b ≠ none := by
          intro h0; apply hb'
          show (if b = g then _ else _) = _
          rw [if_neg hbg]; exact h0
        exact Nat.lt_of_lt_of_le (hI.phiL b this) hb.size
    · have := hI.phiL b (by rw [h1]; simp)
      show (if b = g then _ else _) = _
      rw [if_neg (by omega)]; exact h1
    · replace hb' : (if b = g then some (.ret 0) else G.phi b) = some o := hb'
      split at hb'
      · cases hb'; exact .inr ⟨0, rfl⟩
      · exact .inl (hl b o hb')
    · cases i with
      | succ i => cases hcl
      | zero =>
        cases hcl
        refine .inr ⟨g, cap, cur, t, (0, 0), .inl rfl, ?_, hh, .inl rfl, by rw [hsz, Nat.mul_one], hle, hcap, fun o ho => ?_⟩
        · show (if g = g then _ else _) = _
          rw [if_pos rfl]
        · show (if g = g then _ else _) = _
          rw [if_pos rfl, if_neg (by omega)]
end Go.Proofs.YtpajgenngpjbaaaGreat.Ev

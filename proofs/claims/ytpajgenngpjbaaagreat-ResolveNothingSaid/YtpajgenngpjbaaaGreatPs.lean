import Derived.Shelf.SlIter.Sorted
import Derived.Test.YtpajgenngpjbaaaGreatPq
import Derived.Test.YtpajgenngpjbaaaGreatPz
import Derived.Shelf.SortM.Plain
import Derived.Shelf.SortM.SortNone
/- slices.Sorted of a map's keys: the kit's contracts, laid at this program. -/
namespace Go.Proofs
open Go.RowKit Go.Maps Go.Sort Go.Shelf
end Go.Proofs
namespace Go.Proofs.YtpajgenngpjbaaaGreat.Ev
open Go Go.Proofs Go.RowKit Go.Maps Go.Sort

theorem strs_inv : ∀ {ks : List V} {l : List (List UInt8)}, strsOf ks = some l → ks = l.map V.str
  | [], l, h => by cases h; rfl
  | x :: r, l, h => by
    unfold strsOf at h
    split at h
    · rename_i he; cases he
    · rename_i s r' he
      cases he
      obtain ⟨l', h1, rfl⟩ := Option.map_eq_some_iff.1 h
      rw [strs_inv h1]; rfl
    · cases h
theorem strs_rep {K : Know} : ∀ (l : List (List UInt8)) (vs : List Value), RepL K vs (l.map V.str) → vs = l.map fun s => Value.string ⟨s.toArray⟩
  | [], _, h => by cases h; rfl
  | s :: r, _, h => by
    cases h with
    | cons h1 h2 =>
      cases h1
      rw [strs_rep r _ h2]; rfl
theorem strs_rep' {K : Know} : ∀ (l : List (List UInt8)), RepL K (l.map fun s => Value.string ⟨s.toArray⟩) (l.map V.str)
  | [] => .nil
  | s :: r => .cons (.str s) (strs_rep' r)
def anyR : Value → Option (DataW Unit × List MemPlace) := fun _ => some (.nil, [])
theorem map_owns {P : Program} (hk : P.underlying 9 = some .string) {G : Gh} {w : World} {b : Nat} {kd : Option IntKind} {ks vs : List V} {l : List (List UInt8)} (h : ObjIs G w.heap[b]? [.mapv kd ks vs]) (hl : strsOf ks = some l) (hn : l.Nodup) (hs : ∀ s ∈ l, s.length ≤ maxLen) (hll : l.length ≤ 1000000) :
    ∃ D0 : DataW Unit, w.ownsMap P 9 anyR b l.length D0 ∧ (strKeys D0).Perm l ∧ Maps.size D0 = l.length := by
  obtain rfl := strs_inv hl
  rcases h with ⟨kd', ks', vs', es, e1, e2, e3, e4, e5, e6, e7⟩ | ⟨s, pos, e1, _⟩
  case inr => cases e1
  cases e1
  have hkeys := strs_rep l _ e4
  have hlen : es.size = l.length := by
    have := congrArg List.length hkeys
    simpa using this
  have hkey : ∀ (i : Nat) (hi : i < es.size), es[i].key = .string ⟨(l[i]'(by omega)).toArray⟩ := fun i hi => by
    have := congrArg (fun x => x[i]?) hkeys
    simp only [List.getElem?_map, Array.getElem?_toList, Array.getElem?_eq_getElem hi, List.getElem?_eq_getElem (show i < l.length by omega), Option.map_some] at this
    injection this
  have hrd : ∀ x ∈ es.toList, ∃ s ∈ l, x.key = .string ⟨s.toArray⟩ ∧ Go.WideElems.rd P 9 anyR x = some (.string s, .nil) := fun x hx => by
    obtain ⟨i, hi, rfl⟩ := List.getElem_of_mem hx
    rw [Array.length_toList] at hi
    have h1 := hkey i hi
    refine ⟨l[i]'(by omega), List.getElem_mem _, by rw [Array.getElem_toList]; exact h1, ?_⟩
    unfold Go.WideElems.rd
    rw [Array.getElem_toList, h1, Go.WideMaps.keyOf_string_mk hk (by rw [sizeL]; exact hs _ (List.getElem_mem _))]
    simp [anyR]
  refine ⟨.map ((es.toList.map (Go.WideElems.rg P 9 anyR)).foldr DataW.insert []), ⟨es, es.size, e2, ⟨by rw [hlen]; unfold maxLen; omega, ⟨fun x hx => ?_, ?_, ?_⟩, fun x hx => ?_⟩, by omega, rfl⟩, ?_, ?_⟩
  · obtain ⟨i, hi, rfl⟩ := List.getElem_of_mem hx
    rw [Array.length_toList] at hi
    rw [Array.getElem_toList, e3 i _ (Array.getElem?_eq_getElem hi)]
    exact hi
  · have : es.toList.map (·.born) = List.range es.size := by
      refine List.ext_getElem (by simp) fun i h1 h2 => ?_
      rw [List.length_map, Array.length_toList] at h1
      simp [e3 i _ (Array.getElem?_eq_getElem h1)]
    rw [this]
    exact List.nodup_range
  · rw [hkeys]
    refine List.pairwise_map.2 (hn.imp fun hne he => hne ?_)
    injection he with he
    injection he with he
    simpa using he
  · obtain ⟨s, _, _, h3⟩ := hrd x hx
    exact ⟨_, h3⟩
  · show ((((es.toList.map (Go.WideElems.rg P 9 anyR)).foldr DataW.insert []).map fun p => strOf p.1)).Perm l
    refine ((Go.WideShapes.sorted_perm _).map _).trans ?_
    rw [List.map_map]
    have : es.toList.map ((fun p => strOf p.1) ∘ Go.WideElems.rg P 9 anyR) = l := by
      refine List.ext_getElem (by simp [hlen]) fun i h1 h2 => ?_
      rw [List.length_map, Array.length_toList] at h1
      have h3 := hkey i h1
      simp only [List.getElem_map, Array.getElem_toList, Function.comp]
      unfold Go.WideElems.rg Go.WideElems.rd
      rw [h3, Go.WideMaps.keyOf_string_mk hk (by rw [sizeL]; exact hs _ (List.getElem_mem _))]
      simp [anyR, strOf]
    rw [this]
  · rw [Maps.size_eq, length_sorted, List.length_map, Array.length_toList, hlen]
end Go.Proofs.YtpajgenngpjbaaaGreat.Ev

/- slices.Sorted of a map's keys is sound. -/
namespace Go.Proofs
open Go.RowKit Go.Maps Go.Sort Go.Shelf
/-- slices.Sort's two contracts at this program, at the fence that asks nothing. -/
theorem Tryz.sorts (m : Nat) : AnyZ.SortsIn Tryz.prog Tryz.sortedL_ren Fence.wide m :=
  ⟨fun blk off cap ss W hH hblk hsz => callsIn_wide.2 (AnyM.slices_Sort_string Tryz.sortL blk off cap ss W hH hblk hsz),
   fun p cap W => callsIn_wide.2 (AnyM.slices_Sort_string_none Tryz.sortL p cap W)⟩
end Go.Proofs
namespace Go.Proofs.YtpajgenngpjbaaaGreat.Ev
open Go Go.Proofs Go.RowKit Go.Maps Go.Sort Go.Shelf

theorem keys_prim [Base] {k : Nat} {M : Mem} {v : V} (h : keysP M k = some v) :
    CallsOK Tryz.prog 55 [.func (.func 99) [] [.ptr 0 k 0]] M v M := by
  unfold keysP at h
  cases hm : mget M 0 k with
  | none => rw [hm] at h; cases h
  | some cs =>
  rw [hm, Option.bind_some] at h
  split at h
  case h_2 => cases h
  rename_i t
  cases hm1 : mget M 1 t with
  | none => rw [hm1] at h; cases h
  | some es =>
  rw [hm1, Option.bind_some] at h
  split at h
  case h_2 => cases h
  rename_i ks vs
  cases hl : strsOf ks with
  | none => rw [hl] at h; cases h
  | some l =>
  rw [hl, Option.bind_some] at h
  split at h
  case isFalse => cases h
  rename_i hcond
  obtain ⟨hll, hn, hs⟩ := hcond
  injection h with h
  subst h
  refine prim_rowB (by kernel_rfl) (fun y hy => by obtain ⟨s, _, rfl⟩ := List.mem_map.1 hy; rfl) (fun G w cargs hI hB hr => ?_)
  match hc : cargs.toList, hr with
  | [a], .cons ha .nil =>
  obtain rfl : cargs = #[a] := by cases cargs; simp_all
  obtain ⟨f', c', rfl, hf, hcc⟩ := ha.func_inv
  cases hf
  cases hcc with | cons hp hcc =>
  cases hcc
  obtain ⟨Bm, nn, ⟨_, _, hlam⟩, rfl⟩ := hp.ptr_inv
  obtain ⟨⟨b', cur, e, fz, h1, h2, ⟨h3, hfz⟩, h4, h5, h6, _⟩, hdc⟩ := (hI.mem 0 k _ hm).1 (by decide) (by simp)
  rw [hlam] at h1
  injection h1 with h1
  injection h1 with h1 h1'
  subst h1
  obtain ⟨b, n, g1, g2, g3, g4⟩ := ((hI.mem 1 t _ hm1).2 rfl).ex
  have hcur : w.cell? ⟨Bm, 0, none⟩ = some (.map (some b)) := by
    rw [cell_of_heap h3]
    have h7 : ∃ u, cur.toList.take 1 = [u] ∧ SRep G u (.mref t) := by
      generalize cur.toList.take _ = us at h5
      cases h5 with | cons r1 r2 => cases r2; exact ⟨_, rfl, r1⟩
    obtain ⟨u, hu, hu2⟩ := h7
    obtain ⟨b2, n2, hb2, rfl⟩ := hu2.mref_inv
    rw [g1] at hb2
    cases hb2
    have := congrArg (fun x => x[0]?) hu
    simpa using this
  have hBm := heap_lt h3
  obtain ⟨D0, hown, hperm, hsize⟩ := map_owns (P := Tryz.prog) Tryz.underlying9 g4 hl hn hs hll
  have hseq := AnyZ.keys_gives (ρ := Tryz.keysL_ren) { Tryz.keysL with } Fence.wide 2 trivial rfl (by omega) Bm b l.length D0 w hBm hcur hown
  have cS := AnyZ.sorted_in Tryz.sortedL Fence.wide 5 trivial trivial trivial trivial rfl (by omega) (Tryz.sorts _) (enters_of Tryz.func98 (by kernel_rfl) rfl) 99 #[.pointer (some ⟨Bm, 0, none⟩)] trivial (enters_of Tryz.func99 (by kernel_rfl) rfl) _ _
    (by rw [hsize]; unfold maxLen; omega) (by rw [hsize]; omega) _ hseq
  refine Calls.mono (callsIn_wide.1 cS) ?_
  rintro e' w' ⟨u, ss, rfl, hS, hrow, hnil, hb⟩
  refine ⟨hb, ?_⟩
  have hst : sortT l = ss.mergeSort fun x y => decide (x ≤ y) := (mergeSort_of_perm (hS.trans hperm)).symm
  have hle : ((sortT l).map V.str).length = ss.length := by rw [hst]; simp
  rcases hrow.2 with ⟨rfl, hz⟩ | ⟨g, cap, cur2, rfl, hg, hh, r1, r2, r3, r4⟩
  · left
    refine ⟨rfl, List.eq_nil_of_length_eq_zero (by rw [hle]; exact hz)⟩
  · right
    refine ⟨g, cap, cur2, _, by rw [hle], hg, hh, by rw [hle]; exact r1, r2, by rw [r3, Nat.mul_one], ?_⟩
    rw [hle, ← Nat.mul_one ss.length, r4, ← hst]
    exact strs_rep' _
end Go.Proofs.YtpajgenngpjbaaaGreat.Ev

/- The library's functions that are taken by contract are sound. -/
namespace Go.Proofs.YtpajgenngpjbaaaGreat.Ev
open Go

/-- slices.Clone, at elements of so many cells and bytes. -/
def cloneA (sz bytes : Nat) : AFunc := ⟨1, (.seq (.ops [⟨some 2, none, [.c (.list sz [] true)], .mv⟩] [2] []) (.seq (.seq (.ops [⟨some 3, none, [.t 0], .mv⟩, ⟨some 4, none, [.t 3], .isnils false⟩] [3] []) (.cond (.t 4) (.clr [0, 4] [] (.seq (.ops [⟨some 2, none, [.c (.list sz [] true)], .mv⟩] [] []) .ret)) (.clr [4] [] .skip))) (.seq (.ops [⟨some 5, none, [], .bslice sz 0 [] []⟩, ⟨some 6, none, [.t 0], .mv⟩, ⟨some 7, none, [.k 5, .t 6], .append sz bytes⟩, ⟨some 2, none, [.k 7], .mv⟩] [0, 5, 6, 7] []) .ret))), [.a (.k 2)]⟩

theorem clone_prim [Base] {P : Program} (hm : P.follows .mixedOrders = true) {f sz bytes : Nat} (hok : okFunc P f (cloneA sz bytes) = true) {xs : List V} {o : Bool} {M : Mem} (h1 : xs.length * bytes ≤ 140737488355328) (h2 : xs.length ≤ 140737488355328) :
    CallsOK P f [.list sz xs o] M (.list sz xs true) M := by
  let A : Nat → Option AFunc := fun n => if n = f then some (cloneA sz bytes) else none
  have hA : ∀ g af, A g = some af → okFunc P g af = true := by
    intro g af h
    by_cases hg : g = f
    · subst hg
      have : A g = some (cloneA sz bytes) := if_pos rfl
      rw [this] at h; cases h; exact hok
    · have : A g = none := if_neg hg
      rw [this] at h; cases h
  have hs : Sound P (ev A fun _ _ _ => none) := ev_sound hm hA (fun f xs M r M' h => by cases h)
  have hf : A f = some (cloneA sz bytes) := if_pos rfl
  have e1 : ev A (fun _ _ _ => none) f [.nils 0] M = some (.list sz [] true, M) := by
    rw [ev_fn' A _ (f := f) hf _ _ rfl]
    simp
  have e2 : ev A (fun _ _ _ => none) f [.emp sz] M = some (.list sz [] true, M) := by
    rw [ev_fn' A _ (f := f) hf _ _ rfl]
    simp
  have e3 : ∀ x ys, xs = x :: ys → ev A (fun _ _ _ => none) f [.list sz xs o] M = some (.list sz xs true, M) := by
    rintro x ys rfl
    rw [ev_fn' A _ (f := f) hf _ _ rfl]
    simp at h1 h2
    simp [h1, h2]
  cases xs with
  | cons x ys => exact hs _ _ _ _ _ (e3 x ys rfl)
  | nil =>
    obtain ⟨c1, k1⟩ := hs _ _ _ _ _ e1
    obtain ⟨_, k2⟩ := hs _ _ _ _ _ e2
    refine ⟨c1, fun G w cargs hI hB hl hr => ?_⟩
    match hc : cargs.toList, hr with
    | [a], .cons ha .nil =>
      rcases ha.list_inv with ⟨_, base, cap, hv, hn⟩ | ⟨b, off, cap, vs, hv, _⟩
      · cases base with
        | none =>
          obtain rfl := hn rfl
          exact k1 G w cargs hI hB hl (by rw [hc, hv]; exact .cons (.data (.nils 0)) .nil)
        | some ad => exact k2 G w cargs hI hB hl (by rw [hc, hv]; exact .cons (.data (.emp ad cap sz)) .nil)
      · exact k2 G w cargs hI hB hl (by rw [hc, hv]; exact .cons (.data (.emp _ cap sz)) .nil)


/-- slices.Clone, where the copy is a row of the arena's. -/
def cloneB (sz bytes : Nat) : AFunc := ⟨1, (.seq (.ops [⟨some 2, none, [.c (.list sz [] true)], .mv⟩] [2] []) (.seq (.seq (.ops [⟨some 3, none, [.t 0], .mv⟩, ⟨some 4, none, [.t 3], .isnils false⟩] [3] []) (.cond (.t 4) (.clr [0, 4] [] (.seq (.ops [⟨some 2, none, [.c (.list sz [] true)], .mv⟩] [] []) .ret)) (.clr [4] [] .skip))) (.seq (.ops [⟨some 5, none, [], .bslice sz 0 [] []⟩, ⟨some 6, none, [.t 0], .mv⟩, ⟨some 7, none, [.k 5, .t 6], .appb sz bytes⟩, ⟨some 2, none, [.t 7], .mv⟩] [0, 5, 6, 7] []) .ret))), [.a (.t 2)]⟩

theorem cloneM_prim [Base] {P : Program} (hm : P.follows .mixedOrders = true) {f : Nat} (hok : okFunc P f (cloneA 8 104) = true) (hok2 : okFunc P f (cloneB 8 104) = true) {xs : List V} {o : Bool} {M M' : Mem} {r : V} (h1 : xs.length * 104 ≤ 140737488355328) (h2 : xs.length ≤ 140737488355328)
    (h : cloneM xs M = some (r, M')) : CallsOK P f [.list 8 xs o] M r M' := by
  cases xs with
  | nil =>
    injection h with h
    injection h with e1 e2
    subst e1 e2
    exact clone_prim hm hok h1 h2
  | cons x ys =>
    obtain ⟨⟨k, m'⟩, h3, h4⟩ := Option.map_eq_some_iff.1 h
    injection h4 with e1 e2
    subst e1 e2
    let A : Nat → Option AFunc := fun n => if n = f then some (cloneB 8 104) else none
    have hA : ∀ g af, A g = some af → okFunc P g af = true := by
      intro g af h
      by_cases hg : g = f
      · subst hg
        have : A g = some (cloneB 8 104) := if_pos rfl
        rw [this] at h; cases h; exact hok2
      · have : A g = none := if_neg hg
        rw [this] at h; cases h
    have hs : Sound P (ev A fun _ _ _ => none) := ev_sound hm hA (fun f xs M r M' h => by cases h)
    have hf : A f = some (cloneB 8 104) := if_pos rfl
    obtain ⟨g1, g2, _, _⟩ := mnew_spec h3
    have h0 : ¬ 0 = M.length := by omega
    have h0' : ¬ M.length = 0 := by omega
    have hn : mnew 0 (flat (x :: ys)) ([] :: M) = some (k, [] :: m') := by
      unfold mnew
      rw [beq_ne h0, cond_false, h3]
      rfl
    have hfit : appbFits 8 104 0 (x :: ys).length = true := by simp [appbFits]; simp at h1 h2; omega
    have hap : rAppb 8 104 [.list 8 [] true, .list 8 (x :: ys) false] ([] :: M) = some (.slc 0 k 0 8 (ys.length + 1), [] :: m') := by
      simp only [rAppb]
      rw [if_pos ⟨trivial, trivial, by simp, hfit⟩, hn]
      rfl
    refine hs _ _ _ _ _ ?_
    rw [ev_fn' A _ (f := f) hf _ _ rfl]
    simp [hap, g2]
    rintro rfl
    simp at g1

theorem prim_sound [Base] : Sound Tryz.prog prim := by
  intro f xs M r M' h
  unfold prim at h
  split at h
  · rename_i s c
    injection h with h
    injection h with h1 h2
    subst h1 h2
    refine ⟨by kernel_rfl, ?_⟩
    intro G w cargs hI hB hl hs
    match hc : cargs.toList, hs with
    | [a, b], .cons ha (.cons hb .nil) =>
      obtain rfl : cargs = #[a, b] := by cases cargs; simp_all
      have ea := ha.str_inv
      have eb := hb.int_inv
      subst ea eb
      refine (Tryz.strings_IndexByte _ _ w).mono ?_
      rintro e w' ⟨rfl, rfl⟩
      exact ⟨_, G, rfl, .data (.int _ _), hI, Ext.refl _ _ _, fun b o hb => .inl (hl b o hb), rfl, Claims.none (noc_sound rfl)⟩
  · split at h
    · rename_i hlen
      injection h with h
      injection h with h1 h2
      subst h1 h2
      exact clone_prim mixed (bytes := 16) (by kernel_rfl) hlen (by omega)
    · cases h
  · split at h
    · rename_i hlen
      injection h with h
      injection h with h1 h2
      subst h1 h2
      exact clone_prim mixed (bytes := 40) (by kernel_rfl) hlen (by omega)
    · cases h
  · split at h
    · rename_i hlen
      exact cloneM_prim mixed (by kernel_rfl) (by kernel_rfl) hlen (by omega) h
    · cases h
  · split at h
    · rename_i hlen
      injection h with h
      injection h with h1 h2
      subst h1 h2
      exact clone_prim mixed (bytes := 72) (by kernel_rfl) hlen (by omega)
    · cases h
  · split at h
    · rename_i hlen
      injection h with h
      injection h with h1 h2
      subst h1 h2
      exact clone_prim mixed (bytes := 40) (by kernel_rfl) hlen (by omega)
    · cases h
  · obtain ⟨v, h1, h2⟩ := Option.map_eq_some_iff.1 h
    cases h2
    exact keys_prim h1
  · exact sort_prim h
  · cases h

end Go.Proofs.YtpajgenngpjbaaaGreat.Ev

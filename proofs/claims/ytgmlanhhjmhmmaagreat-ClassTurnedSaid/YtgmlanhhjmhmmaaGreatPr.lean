/- The library's functions that are taken by contract: strings.IndexByte; slices.Clone, of which the evaluator does not know whether an empty slice is nil. -/
import Derived.Test.YtgmlanhhjmhmmaaGreatEv13
import Derived.Test.YtgmlanhhjmhmmaaGreatTab
import Derived.Test.YtgmlanhhjmhmmaaGreatShelf
namespace Go.Proofs.YtgmlanhhjmhmmaaGreat.Ev
open Go

/-- slices.Clone, at elements of so many cells and bytes. -/
def cloneA (sz bytes : Nat) : AFunc := ⟨1, (.seq (.ops [⟨some 2, none, [.c (.list sz [] true)], .mv⟩] [2] []) (.seq (.seq (.ops [⟨some 3, none, [.t 0], .mv⟩, ⟨some 4, none, [.t 3], .isnils false⟩] [3] []) (.cond (.t 4) (.clr [0, 4] [] (.seq (.ops [⟨some 2, none, [.c (.list sz [] true)], .mv⟩] [] []) .ret)) (.clr [4] [] .skip))) (.seq (.ops [⟨some 5, none, [], .bslice sz 0 [] []⟩, ⟨some 6, none, [.t 0], .mv⟩, ⟨some 7, none, [.k 5, .t 6], .append sz bytes⟩, ⟨some 2, none, [.k 7], .mv⟩] [0, 5, 6, 7] []) .ret))), [.a (.k 2)]⟩

theorem clone_prim {P : Program} (hm : P.follows .mixedOrders = true) {f sz bytes : Nat} (hok : okFunc P f (cloneA sz bytes) = true) {xs : List V} {o : Bool} {M : Mem} (h1 : xs.length * bytes ≤ 140737488355328) (h2 : xs.length ≤ 140737488355328) :
    CallsOK P f [.list sz xs o] M (.list sz xs true) M := by
  let A : Nat → Option AFunc := fun n => if n = f then some (cloneA sz bytes) else none
  have hA : ∀ g af, A g = some af → okFunc P g af = true := by
    intro g af h
    by_cases hg : g = f
    · subst hg
      have : A g = some (cloneA sz bytes) := if_pos rfl
      rw [this] at h; cases h; exact hok
    · have : A g = none := if_neg hg
      rw [this] at h; cases h
  have hs : Sound P (ev A fun _ _ _ => none) := ev_sound hm hA (fun f xs M r M' h => by cases h)
  have hf : A f = some (cloneA sz bytes) := if_pos rfl
  have e1 : ev A (fun _ _ _ => none) f [.nils 0] M = some (.list sz [] true, M) := by
    rw [ev_fn' A _ (f := f) hf _ _ rfl]
    simp
  have e2 : ev A (fun _ _ _ => none) f [.emp sz] M = some (.list sz [] true, M) := by
    rw [ev_fn' A _ (f := f) hf _ _ rfl]
    simp
  have e3 : ∀ x ys, xs = x :: ys → ev A (fun _ _ _ => none) f [.list sz xs o] M = some (.list sz xs true, M) := by
    rintro x ys rfl
    rw [ev_fn' A _ (f := f) hf _ _ rfl]
    simp at h1 h2
    simp [h1, h2]
  cases xs with
  | cons x ys => exact hs _ _ _ _ _ (e3 x ys rfl)
  | nil =>
    obtain ⟨c1, k1⟩ := hs _ _ _ _ _ e1
    obtain ⟨_, k2⟩ := hs _ _ _ _ _ e2
    refine ⟨c1, fun G w cargs hI hl hr => ?_⟩
    match hc : cargs.toList, hr with
    | [a], .cons ha .nil =>
      rcases ha.list_inv with ⟨_, base, cap, hv, hn⟩ | ⟨b, off, cap, vs, hv, _⟩
      · cases base with
        | none =>
          obtain rfl := hn rfl
          exact k1 G w cargs hI hl (by rw [hc, hv]; exact .cons (.data (.nils 0)) .nil)
        | some ad => exact k2 G w cargs hI hl (by rw [hc, hv]; exact .cons (.data (.emp ad cap sz)) .nil)
      · exact k2 G w cargs hI hl (by rw [hc, hv]; exact .cons (.data (.emp _ cap sz)) .nil)

def prim : CallF := fun f xs m =>
  match f, xs with
  | 95, [.str s, .int .u8 c] => some (.int .i64 (Lib.indexByte s c.toNat.toUInt8), m)
  | 64, [.list 1 xs _] => if xs.length ≤ 140737488355328 then some (.list 1 xs true, m) else none
  | _, _ => none

theorem prim_sound : Sound Tryz.prog prim := by
  intro f xs M r M' h
  unfold prim at h
  split at h
  · rename_i s c
    injection h with h
    injection h with h1 h2
    subst h1 h2
    refine ⟨by kernel_rfl, ?_⟩
    intro G w cargs hI hl hs
    match hc : cargs.toList, hs with
    | [a, b], .cons ha (.cons hb .nil) =>
      obtain rfl : cargs = #[a, b] := by cases cargs; simp_all
      have ea := ha.str_inv
      have eb := hb.int_inv
      subst ea eb
      refine (Tryz.strings_IndexByte _ _ w).mono ?_
      rintro e w' ⟨rfl, rfl⟩
      exact ⟨_, G, rfl, .data (.int _ _), hI, Ext.refl _ _ _, fun b o hb => .inl (hl b o hb), rfl, Claims.none (noc_sound rfl)⟩
  · split at h
    · rename_i hlen
      injection h with h
      injection h with h1 h2
      subst h1 h2
      exact clone_prim mixed (bytes := 1) (by kernel_rfl) (by simpa using hlen) hlen
    · cases h
  · cases h

end Go.Proofs.YtgmlanhhjmhmmaaGreat.Ev

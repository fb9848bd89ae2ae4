/- The library's functions that are taken by contract. -/
import Derived.Test.YtgggjclhadlncaaEv13
import Derived.Test.YtgggjclhadlncaaTab
import Derived.Test.YtgggjclhadlncaaShelf
namespace Go.Proofs.Ytgggjclhadlncaa.Ev
open Go

def prim : CallF := fun f xs m =>
  match f, xs with
  | 51, [.str s, .int .u8 c] => some (.int .i64 (Lib.indexByte s c.toNat.toUInt8), m)
  | _, _ => none

theorem prim_sound : Sound Try.prog prim := by
  intro f xs M r M' h
  unfold prim at h
  split at h
  · rename_i s c
    injection h with h
    injection h with h1 h2
    subst h1 h2
    refine ⟨by kernel_rfl, ?_⟩
    intro G w cargs hI hl hs
    match hc : cargs.toList, hs with
    | [a, b], .cons ha (.cons hb .nil) =>
      obtain rfl : cargs = #[a, b] := by cases cargs; simp_all
      have ea := ha.str_inv
      have eb := hb.int_inv
      subst ea eb
      refine (Try.strings_IndexByte _ _ w).mono ?_
      rintro e w' ⟨rfl, rfl⟩
      refine ⟨_, G, rfl, ?_, hI, Ext.refl _ _ _, hl, rfl⟩
      exact .data (.int _ _)
  · cases h

end Go.Proofs.Ytgggjclhadlncaa.Ev

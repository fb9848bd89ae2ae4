/- What the small functions of instructions compute. -/
import Derived.Test.YtpmpofcokkgfdaaGreatDoorPr
namespace Go.Proofs.YtpmpofcokkgfdaaGreatDoor.Ev
open Go

def T : List V := [.str [], .bool false, .bool false, .bool false, .bool false, .bool false, .int .i64 0, .int .i64 0, .str [110, 111, 112], .bool false, .bool false, .bool false, .bool false, .bool false, .int .i64 0, .int .i64 0, .str [105, 99, 111, 110, 115, 116], .bool true, .bool false, .bool false, .bool false, .bool false, .int .i64 0, .int .i64 1, .str [99, 99, 111, 110, 115, 116], .bool true, .bool true, .bool false, .bool false, .bool false, .int .i64 0, .int .i64 1, .str [110, 117, 108, 108], .bool false, .bool false, .bool false, .bool false, .bool false, .int .i64 0, .int .i64 1, .str [108, 111, 97, 100], .bool true, .bool false, .bool false, .bool false, .bool false, .int .i64 0, .int .i64 1, .str [115, 116, 111, 114, 101], .bool true, .bool false, .bool false, .bool false, .bool false, .int .i64 1, .int .i64 0, .str [112, 111, 112], .bool false, .bool false, .bool false, .bool false, .bool false, .int .i64 1, .int .i64 0, .str [100, 117, 112], .bool false, .bool false, .bool false, .bool false, .bool false, .int .i64 1, .int .i64 2, .str [115, 119, 97, 112], .bool false, .bool false, .bool false, .bool false, .bool false, .int .i64 2, .int .i64 2, .str [105, 97, 100, 100], .bool false, .bool false, .bool false, .bool false, .bool false, .int .i64 2, .int .i64 1, .str [105, 115, 117, 98], .bool false, .bool false, .bool false, .bool false, .bool false, .int .i64 2, .int .i64 1, .str [105, 109, 117, 108], .bool false, .bool false, .bool false, .bool false, .bool false, .int .i64 2, .int .i64 1, .str [105, 100, 105, 118], .bool false, .bool false, .bool false, .bool false, .bool false, .int .i64 2, .int .i64 1, .str [99, 97, 100, 100], .bool false, .bool false, .bool false, .bool false, .bool false, .int .i64 2, .int .i64 1, .str [99, 109, 117, 108], .bool false, .bool false, .bool false, .bool false, .bool false, .int .i64 2, .int .i64 1, .str [99, 114, 101], .bool false, .bool false, .bool false, .bool false, .bool false, .int .i64 1, .int .i64 1, .str [103, 111, 116, 111], .bool true, .bool false, .bool false, .bool false, .bool false, .int .i64 0, .int .i64 0, .str [105, 102, 122, 101, 114, 111], .bool true, .bool false, .bool false, .bool false, .bool false, .int .i64 1, .int .i64 0, .str [105, 102, 110, 117, 108, 108], .bool true, .bool false, .bool false, .bool false, .bool false, .int .i64 1, .int .i64 0, .str [105, 102, 115, 97, 109, 101], .bool true, .bool false, .bool false, .bool false, .bool false, .int .i64 2, .int .i64 0, .str [110, 101, 119], .bool false, .bool false, .bool true, .bool false, .bool false, .int .i64 0, .int .i64 1, .str [103, 101, 116, 102, 105, 101, 108, 100], .bool false, .bool false, .bool true, .bool true, .bool true, .int .i64 1, .int .i64 1, .str [112, 117, 116, 102, 105, 101, 108, 100], .bool false, .bool false, .bool true, .bool true, .bool true, .int .i64 2, .int .i64 0, .str [103, 101, 116, 115, 116, 97, 116, 105, 99], .bool false, .bool false, .bool true, .bool true, .bool true, .int .i64 0, .int .i64 1, .str [112, 117, 116, 115, 116, 97, 116, 105, 99], .bool false, .bool false, .bool true, .bool true, .bool true, .int .i64 1, .int .i64 0, .str [110, 101, 119, 97, 114, 114, 97, 121], .bool false, .bool false, .bool false, .bool false, .bool true, .int .i64 1, .int .i64 1, .str [97, 108, 111, 97, 100], .bool false, .bool false, .bool false, .bool false, .bool false, .int .i64 2, .int .i64 1, .str [97, 115, 116, 111, 114, 101], .bool false, .bool false, .bool false, .bool false, .bool false, .int .i64 3, .int .i64 0, .str [97, 108, 101, 110], .bool false, .bool false, .bool false, .bool false, .bool false, .int .i64 1, .int .i64 1, .str [99, 97, 115, 116], .bool false, .bool false, .bool false, .bool false, .bool true, .int .i64 1, .int .i64 1, .str [105, 115, 105, 110, 115, 116], .bool false, .bool false, .bool false, .bool false, .bool true, .int .i64 1, .int .i64 1, .str [99, 97, 108, 108, 115, 116, 97, 116, 105, 99], .bool false, .bool false, .bool true, .bool true, .bool true, .int .i64 0, .int .i64 0, .str [99, 97, 108, 108, 115, 112, 101, 99, 105, 97, 108], .bool false, .bool false, .bool true, .bool true, .bool true, .int .i64 1, .int .i64 0, .str [99, 97, 108, 108, 118, 105, 114, 116, 117, 97, 108], .bool false, .bool false, .bool true, .bool true, .bool true, .int .i64 1, .int .i64 0, .str [99, 97, 108, 108, 105, 110, 116, 101, 114, 102, 97, 99, 101], .bool false, .bool false, .bool true, .bool true, .bool true, .int .i64 1, .int .i64 0, .str [114, 101, 116, 117, 114, 110], .bool false, .bool false, .bool false, .bool false, .bool false, .int .i64 0, .int .i64 0, .str [114, 101, 116, 118, 97, 108], .bool false, .bool false, .bool false, .bool false, .bool false, .int .i64 1, .int .i64 0, .str [116, 104, 114, 111, 119], .bool false, .bool false, .bool false, .bool false, .bool false, .int .i64 1, .int .i64 0]
theorem T_len : T.length = 312 := by kernel_rfl

def zRow : List V := [.str [], .bool false, .bool false, .bool false, .bool false, .bool false, .int .i64 0, .int .i64 0]
def rowOf (a : Int) : List V := if 1 ≤ a ∧ a ≤ 38 then (T.drop (a.toNat * 8)).take 8 else zRow

theorem of_map {α : Type} {f g : Nat → α} {n : Nat} (h : (List.range n).map f = (List.range n).map g) {k : Nat} (hk : k < n) : f k = g k :=
  List.map_inj_left.1 h k (List.mem_range.2 hk)

def inR (a : Int) : Bool := decide (1 ≤ a ∧ a ≤ 38)
theorem inR_nat {a : Int} (h : inR a = true) : ∃ n : Nat, a = n ∧ n < 39 := by
  simp [inR] at h
  exact ⟨a.toNat, by omega, by omega⟩
theorem inR_false {a : Int} (h : inR a = false) : a < 1 ∨ 38 < a := by
  simp [inR] at h
  omega

def shapeOf (a : Int) : List V := ((rowOf a).drop 1).take 5
def wordOf (a : Int) : List UInt8 := match rowOf a with | .str s :: _ => s | _ => []

theorem rowOf_out {a : Int} (h : inR a = false) : rowOf a = zRow := by
  unfold rowOf; rw [if_neg (by simpa [inR] using h)]
theorem shapeOf_out {a : Int} (h : inR a = false) : shapeOf a = [.bool false, .bool false, .bool false, .bool false, .bool false] := by
  unfold shapeOf; rw [rowOf_out h]; rfl
theorem wordOf_out {a : Int} (h : inR a = false) : wordOf a = [] := by
  unfold wordOf; rw [rowOf_out h]; rfl

def rstr (a i : Nat) : List UInt8 := match T[a * 8 + i]? with | some (.str s) => s | _ => []
def rbool (a i : Nat) : Bool := match T[a * 8 + i]? with | some (.bool s) => s | _ => false
def rint (a i : Nat) : Int := match T[a * 8 + i]? with | some (.int _ s) => s | _ => 0
theorem row_in : (List.range 39).map (fun n : Nat => (T.drop (n * 8)).take 8) = (List.range 39).map (fun n : Nat =>
    [V.str (rstr n 0), .bool (rbool n 1), .bool (rbool n 2), .bool (rbool n 3), .bool (rbool n 4), .bool (rbool n 5), .int .i64 (rint n 6), .int .i64 (rint n 7)]) := by kernel_rfl

def rowB (a : Int) (i : Nat) : Bool := match (rowOf a)[i]? with | some (.bool s) => s | _ => false
def rowI (a : Int) (i : Nat) : Int := match (rowOf a)[i]? with | some (.int _ s) => s | _ => 0
theorem rowOf_eq (a : Int) : rowOf a = [.str (wordOf a), .bool (rowB a 1), .bool (rowB a 2), .bool (rowB a 3), .bool (rowB a 4), .bool (rowB a 5), .int .i64 (rowI a 6), .int .i64 (rowI a 7)] := by
  cases h : inR a with
  | true =>
    have hr : rowOf a = (T.drop (a.toNat * 8)).take 8 := by unfold rowOf; rw [if_pos (by simpa [inR] using h)]
    obtain ⟨n, rfl, hn⟩ := inR_nat h
    rw [Int.toNat_natCast] at hr
    rw [of_map row_in hn] at hr
    simp [rowB, rowI, wordOf, hr]
  | false => simp [rowB, rowI, wordOf, rowOf_out h, zRow]

theorem shapeOf_eq (a : Int) : shapeOf a = [.bool (rowB a 1), .bool (rowB a 2), .bool (rowB a 3), .bool (rowB a 4), .bool (rowB a 5)] := by
  rw [shapeOf, rowOf_eq]; rfl

/-- Words are unlike. -/
theorem words_in : (List.range 39).map (fun n : Nat => (List.range 39).map fun k : Nat => inR (n : Int) && inR (k : Int) && ((wordOf (n : Int) == wordOf (k : Int)) != (n == k))) = (List.range 39).map (fun _ : Nat => (List.range 39).map fun _ : Nat => false) := by kernel_rfl
theorem some_in : (List.range 39).map (fun n : Nat => inR (n : Int) && (wordOf (n : Int) == [])) = (List.range 39).map (fun _ : Nat => false) := by kernel_rfl
theorem words {a b : Int} (ha : inR a = true) (hb : inR b = true) : (wordOf a == wordOf b) = (a == b) := by
  obtain ⟨n, rfl, hn⟩ := inR_nat ha
  obtain ⟨k, rfl, hk⟩ := inR_nat hb
  have := of_map (of_map words_in hn) hk
  simp only [ha, hb, Bool.and_self, Bool.true_and] at this
  have h2 : (wordOf (n : Int) == wordOf (k : Int)) = (n == k) := by simpa using this
  rw [h2, Bool.eq_iff_iff]; simp; omega
theorem word_some {a : Int} (ha : inR a = true) : wordOf a ≠ [] := by
  obtain ⟨n, rfl, hn⟩ := inR_nat ha
  have := of_map some_in hn
  simp only [ha, Bool.true_and] at this
  simpa using this
theorem word_eq {a : Int} : (wordOf a = []) ↔ inR a = false := by
  constructor
  · intro h; cases hh : inR a with
    | false => rfl
    | true => exact absurd h (word_some hh)
  · exact wordOf_out

end Go.Proofs.YtpmpofcokkgfdaaGreatDoor.Ev

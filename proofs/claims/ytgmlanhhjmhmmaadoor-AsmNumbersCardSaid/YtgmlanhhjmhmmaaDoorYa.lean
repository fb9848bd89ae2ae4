/- The readers of asm, and what a decimal number is (chapter 24): word, num, ended; Decimal; opOf. -/
import Derived.Test.YtgmlanhhjmhmmaaDoorGb
namespace Go.Proofs.YtgmlanhhjmhmmaaDoor.Ev
open Go

/-! ### A reader -/
structure Rd where (ws : List (List UInt8)) (bad : Bool)
def Rd.cells (r : Rd) : List V := [.list 1 (r.ws.map V.str) false, .bool r.bad]
def Rd.word (r : Rd) : List UInt8 × Rd := match r.ws with
  | [] => ([], ⟨[], true⟩)
  | w :: q => (w, ⟨q, r.bad⟩)
def Rd.num (r : Rd) : Int × Rd := ((atoiV r.word.1).1, ⟨r.word.2.ws, r.word.2.bad || (atoiV r.word.1).2⟩)
def Rd.wordIf (r : Rd) (b : Bool) : List UInt8 × Rd := bif b then r.word else ([], r)
def Rd.numIf (r : Rd) (b : Bool) : Int × Rd := bif b then r.num else (0, r)
def Rd.ended (r : Rd) : Bool := !r.bad && r.ws.isEmpty

/-- The memory of a frame that holds x and a reader. -/
def rdM (X : List V) (r : Rd) : Mem := [[(2, X), (10, r.cells)], [], []]

theorem ev_word (X : List V) (r : Rd) : ev tab prim 18 [.ptr 2 10 0] (rdM X r) = some (.str r.word.1, rdM X r.word.2) := by
  obtain ⟨ws, bad⟩ := r
  unfold rdM Rd.word Rd.cells
  rw [ev_fn' tab prim (f := 18) rfl _ _ rfl]
  cases ws with
  | nil => simp
  | cons w q =>
    have h1 : ¬ (q.length : Int) + 1 = 0 := by omega
    have h2 : ((q.length : Int) + 1 == 0) = false := by simpa using h1
    have h3 : (1 : Int) ≤ (q.length : Int) + 1 := by omega
    have h4 : (q.map V.str).take q.length = q.map V.str := List.take_of_length_le (by simp)
    simp [h1, h2, h3, h4, idxOk]

theorem ev_word1 (X : List V) (r : Rd) : ev tab prim 18 [.ptr 2 10 0] ([] :: rdM X r) = some (.str r.word.1, [] :: rdM X r.word.2) := by
  obtain ⟨ws, bad⟩ := r
  unfold rdM Rd.word Rd.cells
  rw [ev_fn' tab prim (f := 18) rfl _ _ rfl]
  cases ws with
  | nil => simp
  | cons w q =>
    have h1 : ¬ (q.length : Int) + 1 = 0 := by omega
    have h2 : ((q.length : Int) + 1 == 0) = false := by simpa using h1
    have h3 : (1 : Int) ≤ (q.length : Int) + 1 := by omega
    have h4 : (q.map V.str).take q.length = q.map V.str := List.take_of_length_le (by simp)
    simp [h1, h2, h3, h4, idxOk]

theorem ev_num (X : List V) (r : Rd) (h : ∀ w ∈ r.ws, w.length ≤ 2000) : ev tab prim 20 [.ptr 2 10 0] (rdM X r) = some (.int .i64 r.num.1, rdM X r.num.2) := by
  have hw := ev_word1 X r
  have hp : ev tab prim 34 [.str r.word.1] ([] :: rdM X r.word.2) = some (.tup [.int .i64 (atoiV r.word.1).1, .ifc (!(atoiV r.word.1).2)], [] :: rdM X r.word.2) := by
    rw [ev_prim tab prim rfl]
    have : r.word.1.length ≤ 281474976710656 := by
      obtain ⟨ws, bad⟩ := r
      cases ws with
      | nil => simp [Rd.word]
      | cons w q => have := h w (by simp); simp [Rd.word]; omega
    simp [prim, this]
  have e : r.num = ((atoiV r.word.1).1, ⟨r.word.2.ws, r.word.2.bad || (atoiV r.word.1).2⟩) := rfl
  rw [e]
  generalize r.word.1 = w at *
  generalize r.word.2 = q at *
  generalize hat : atoiV w = p at *
  obtain ⟨n, b⟩ := p
  obtain ⟨ws, bad⟩ := q
  clear e h
  unfold rdM Rd.cells at *
  rw [ev_fn' tab prim (f := 20) rfl _ _ rfl]
  simp at hw hp
  cases bad <;> simp [hw, hp]

theorem ev_ended (X : List V) (r : Rd) : ev tab prim 21 [.ptr 2 10 0] (rdM X r) = some (.bool r.ended, rdM X r) := by
  obtain ⟨ws, bad⟩ := r
  unfold rdM Rd.ended Rd.cells
  rw [ev_fn' tab prim (f := 21) rfl _ _ rfl]
  cases bad <;> cases ws with
  | nil => simp
  | cons w q =>
    have h1 : ¬ (q.length : Int) + 1 = 0 := by omega
    have h2 : ((q.length : Int) + 1 == 0) = false := by simpa using h1
    simp [h1, h2]

end Go.Proofs.YtgmlanhhjmhmmaaDoor.Ev

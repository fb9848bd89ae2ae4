/- Whether a method may be: its parts. -/
import Derived.Test.YtgmlanhhjmhmmaaGreatGi
namespace Go.Proofs.YtgmlanhhjmhmmaaGreat.Ev
open Go

def mps (d : List UInt8) : List Tx := if methOk d = true then (prm 8 (cut 40 d).1).1 else []
def mres (d : List UInt8) : Tx := if methOk d = true then (cut 41 (prm 8 (cut 40 d).1).2).1 else []
theorem methV_eq (d : List UInt8) : methV d = .tup [.list 1 ((mps d).map V.str) true, .str (mres d), .int .i64 (if methOk d = true then 0 else 6)] := by
  unfold methV mps mres
  change (if methOk d = true then _ else _) = _
  split <;> rfl

/-- May a method's texts be? -/
def nmdM (m : Mth) : Bool := (methOk m.d && mnameOk m.n) && (bif m.n == clinitN then m.s && m.d == [40, 41, 86] else bif m.n == initN then !m.s && (!m.a && mres m.d == [86]) else true)

set_option maxHeartbeats 16000000 in
theorem ev_namedM (m : Mth) (hm : m.Small) : ev tab prim 83 [m.v] [[], []] = some (.bool (nmdM m), [[], []]) := by
  have hM := ev96 m.d (by have := hm.d; omega)
  rw [methV_eq] at hM
  have hN := ev97 m.n (by have := hm.n; omega)
  unfold Mth.v Mth.cells nmdM clinitN initN
  rw [ev_fn' tab prim (f := 83) rfl _ _ rfl]
  have hk : methOk m.d = true ∨ methOk m.d = false := by cases methOk m.d <;> simp
  generalize mnameOk m.n = nn at *
  rcases hk with h | h <;> rw [h] at hM
  · cases nn
    · simp [hM, hN, h]
    · cases e1 : m.n == [60, 99, 108, 105, 110, 105, 116, 62]
      · cases e2 : m.n == [60, 105, 110, 105, 116, 62]
        · simp [hM, hN, h, e1, e2]
        · cases e3 : m.s
          · cases e4 : m.a <;> simp [hM, hN, h, e1, e2]
          · simp [hM, hN, h, e1, e2]
      · cases e3 : m.s <;> simp [hM, hN, h, e1]
  · simp [hM, h]

def limM (m : Mth) : Bool := (decide (0 ≤ m.st) && decide (m.st ≤ 20)) && ((decide (0 ≤ m.lo) && decide (m.lo ≤ 20)) && (decide ((m.code.length : Int) ≤ 200) && decide ((m.hs.length : Int) ≤ 20)))

theorem ev_withinC (n lo hi : Int) : ev tab prim 98 [.int .i64 n, .int .i64 lo, .int .i64 hi] [[], []] = some (.bool (decide (lo ≤ n) && decide (n ≤ hi)), [[], []]) := by
  rw [ev_fn' tab prim (f := 98) rfl _ _ rfl]
  by_cases h1 : lo ≤ n <;> simp [h1]

set_option maxHeartbeats 4000000 in
theorem ev_limited (m : Mth) : ev tab prim 84 [m.v] [[], []] = some (.bool (limM m), [[], []]) := by
  have h1 := ev_withinC m.st 0 20
  have h2 := ev_withinC m.lo 0 20
  unfold Mth.v Mth.cells limM
  rw [ev_fn' tab prim (f := 84) rfl _ _ rfl]
  generalize (decide (0 ≤ m.st) && decide (m.st ≤ 20)) = b1 at *
  generalize (decide (0 ≤ m.lo) && decide (m.lo ≤ 20)) = b2 at *
  cases b1
  · simp [h1]
  cases b2
  · simp [h1, h2]
  by_cases h3 : (m.code.length : Int) ≤ 200 <;> simp [h1, h2, h3]

def leastM (m : Mth) : Int := (mps m.d).length + (bif m.s then 0 else 1)
theorem mps_len (d : List UInt8) : (mps d).length ≤ 8 := by
  unfold mps; split
  · exact prm_few 8 _
  · simp

theorem ev_Least (m : Mth) (hm : m.Small) : ev tab prim 85 [m.v] [[], []] = some (.int .i64 (leastM m), [[], []]) := by
  have hM := ev96 m.d (by have := hm.d; omega)
  rw [methV_eq] at hM
  have hW := ev99 ((mps m.d).map V.str) false
  rw [List.length_map] at hW
  have hl := mps_len m.d
  have hw : IntKind.i64.wrap (((mps m.d).length : Int) + 1) = ((mps m.d).length : Int) + 1 := wrap_small (by omega) (by omega)
  unfold Mth.v Mth.cells leastM
  rw [ev_fn' tab prim (f := 85) rfl _ _ rfl]
  cases e : m.s <;> simp [hM, hW, hw]

/-- Why a handler may not be. -/
def hdl (h : Hnd) (len : Int) : Int :=
  bif decide (h.f < 0) || (decide (h.t ≤ h.f) || (decide (len < h.t) || !(decide (0 ≤ h.a) && decide (h.a ≤ len - 1)))) then 4 else bif !(h.c == []) && !nameOk h.c then 6 else 0

set_option maxHeartbeats 8000000 in
theorem ev_handler (h : Hnd) (len : Int) (hl : 0 ≤ len ∧ len ≤ 65535) (hc : h.c.length ≤ 65535) : ev tab prim 87 [h.v, .int .i64 len] [[], []] = some (.int .i64 (hdl h len), [[], []]) := by
  have hw : IntKind.i64.wrap (len - 1) = len - 1 := wrap_small (by omega) (by omega)
  have h1 := ev_withinC h.a 0 (len - 1)
  have hN := ev52 h.c (by omega)
  unfold Hnd.v hdl
  rw [ev_fn' tab prim (f := 87) rfl _ _ rfl]
  generalize (decide (0 ≤ h.a) && decide (h.a ≤ len - 1)) = b at *
  generalize nameOk h.c = nc at *
  by_cases p1 : h.f < 0
  · simp [p1]
  by_cases p2 : h.t ≤ h.f
  · simp [p1, p2]
  by_cases p3 : len < h.t
  · simp [p1, p2, p3]
  cases b
  · simp [p1, p2, p3, hw, h1]
  cases e : h.c == []
  · cases nc <;> simp [p1, p2, p3, hw, h1, e, hN]
  · simp [p1, p2, p3, hw, h1, e]

end Go.Proofs.YtgmlanhhjmhmmaaGreat.Ev

/- The type that a text begins with, as desc tells it. -/
import Derived.Test.YtgmlanhhjmhmmaaGreatFh
namespace Go.Proofs.YtgmlanhhjmhmmaaGreat.Ev
open Go

/-- How long a type a text begins with, that opens with no bracket; 0: none. -/
def body : List UInt8 → Nat
  | [] => 0
  | c :: r => if c = 73 ∨ c = 67 then 1 else if c ≠ 76 then 0 else
    if Lib.indexByte r 59 < 0 then 0 else if nameOk (r.take (Lib.indexByte r 59).toNat) = true then (Lib.indexByte r 59).toNat + 2 else 0
def fr (d : Nat) : List UInt8 → Nat
  | [] => 0
  | c :: r => if 4 < d then 0 else if c = 91 then (if fr (d + 1) r = 0 then 0 else fr (d + 1) r + 1) else body (c :: r)

theorem idx_lt (r : List UInt8) (c : UInt8) : Lib.indexByte r c < r.length ∧ -1 ≤ Lib.indexByte r c := by
  induction r with
  | nil => simp [Lib.indexByte]
  | cons b l ih =>
    unfold Lib.indexByte
    simp only [List.length_cons]
    split
    · omega
    · split
      · omega
      · rename_i h _; simp at h; omega

theorem body_le (s : List UInt8) : body s ≤ s.length := by
  cases s with
  | nil => simp [body]
  | cons c r =>
    have := idx_lt r 59
    unfold body; simp only [List.length_cons]
    repeat' split
    all_goals omega
theorem fr_le (d : Nat) (s : List UInt8) : fr d s ≤ s.length := by
  induction s generalizing d with
  | nil => simp [fr]
  | cons c r ih =>
    have := ih (d + 1)
    unfold fr
    split
    · omega
    · split
      · split
        · omega
        · simp only [List.length_cons]; omega
      · exact body_le _

def nx (s rest : List UInt8) (d : Nat) : St := { env := [(0, .str s), (3, .str rest), (4, .int .i64 (d : Int))], mem := [[], [], []] }
def nxFail (s : List UInt8) : Res := some (.ret, { env := [(2, .str []), (3, .str s)], mem := [[], [], []] })
def nxOk (s rest : List UInt8) : Res := some (.ret, { env := [(2, .str (s.take (s.length - rest.length))), (3, .str rest)], mem := [[], [], []] })

theorem u8 {c : UInt8} {n : Nat} (hn : n < 256) : ((c.toNat : Int) = (n : Int)) ↔ c = n.toUInt8 := by
  constructor
  · intro h
    have : c.toNat = n := by omega
    rw [← this]; simp
  · rintro rfl
    simp; omega

theorem ev95 (s : List UInt8) (c : Int) : ev tab prim 95 [.str s, .int .u8 c] [[], []] = some (.int .i64 (Lib.indexByte s c.toNat.toUInt8), [[], []]) :=
  ev_prim tab prim rfl _ _

theorem findK49 : findL S82_0 0 = some (.seq .skip K82_0) := by rfl

theorem nx_end (s R : List UInt8) (hs : s.length ≤ 100000) (hR : R.length ≤ s.length) : IntKind.i64.wrap ((s.length : Int) - (R.length : Int)) = ((s.length - R.length : Nat) : Int) := by
  rw [wrap_small (by omega) (by omega)]; omega

set_option maxHeartbeats 4000000 in
theorem nx_lone (s r : List UInt8) (c : UInt8) (d : Nat) (hs : s.length ≤ 100000) (hr : r.length + 1 ≤ s.length) (hd : d ≤ 4) (hc : c = 73 ∨ c = 67) :
    cv tab prim K82_0 (nx s (c :: r) d) = nxOk s r := by
  have hd' : ¬ 4 < (d : Int) := by omega
  have he := nx_end s r hs (by omega)
  have hb : s.length - r.length ≤ s.length := by omega
  have l1 : (1 : Int) ≤ (r.length : Int) + 1 := by omega
  rcases hc with rfl | rfl <;> simp [K82_0, nx, nxOk, hd', idxOk, he, hb, l1]

set_option maxHeartbeats 4000000 in
theorem nx_brk (s r : List UInt8) (d : Nat) (hd : d ≤ 4) : cv tab prim K82_0 (nx s (91 :: r) d) = some (.goto 0, nx s r (d + 1)) := by
  have hd' : ¬ 4 < (d : Int) := by omega
  have hw : IntKind.i64.wrap ((d : Int) + 1) = (d : Int) + 1 := wrap_small (by omega) (by omega)
  have l1 : (1 : Int) ≤ (r.length : Int) + 1 := by omega
  simp [K82_0, nx, hd', idxOk, hw, l1]

set_option maxHeartbeats 4000000 in
theorem nx_nil (s : List UInt8) (d : Nat) : cv tab prim K82_0 (nx s [] d) = nxFail s := by
  simp [K82_0, nx, nxFail]

set_option maxHeartbeats 4000000 in
theorem nx_deep (s rest : List UInt8) (d : Nat) (hd : 4 < d) : cv tab prim K82_0 (nx s rest d) = nxFail s := by
  have hd' : 4 < (d : Int) := by omega
  cases rest with
  | nil => exact nx_nil s d
  | cons c r => simp [K82_0, nx, nxFail, hd']

set_option maxHeartbeats 4000000 in
theorem nx_other (s r : List UInt8) (c : UInt8) (d : Nat) (hd : d ≤ 4) (h1 : c ≠ 91) (h2 : c ≠ 73) (h3 : c ≠ 67) (h4 : c ≠ 76) : cv tab prim K82_0 (nx s (c :: r) d) = nxFail s := by
  have hd' : ¬ 4 < (d : Int) := by omega
  have e1 : ((c.toNat : Int) == 91) = false := by rw [ieq]; simp; intro h; exact h1 ((u8 (n := 91) (by omega)).1 h)
  have e2 : ((c.toNat : Int) == 73) = false := by rw [ieq]; simp; intro h; exact h2 ((u8 (n := 73) (by omega)).1 h)
  have e3 : ((c.toNat : Int) == 67) = false := by rw [ieq]; simp; intro h; exact h3 ((u8 (n := 67) (by omega)).1 h)
  have e4 : ((c.toNat : Int) == 76) = false := by rw [ieq]; simp; intro h; exact h4 ((u8 (n := 76) (by omega)).1 h)
  by_cases hk : Lib.indexByte (c :: r) 59 < 0
  · simp [K82_0, nx, nxFail, hd', idxOk, e1, e2, e3, ev95, hk]
  · simp [K82_0, nx, nxFail, hd', idxOk, e1, e2, e3, e4, bne, ev95, hk]

set_option maxHeartbeats 4000000 in
theorem nx_none (s r : List UInt8) (d : Nat) (hd : d ≤ 4) (hk : Lib.indexByte r 59 < 0) : cv tab prim K82_0 (nx s (76 :: r) d) = nxFail s := by
  have hd' : ¬ 4 < (d : Int) := by omega
  have hk' : Lib.indexByte (76 :: r) 59 < 0 := by
    have := (idx_lt r 59).2
    have h1 : Lib.indexByte r 59 = -1 := by omega
    unfold Lib.indexByte
    simp [h1]
  simp [K82_0, nx, nxFail, hd', idxOk, ev95, hk']

set_option maxHeartbeats 4000000 in
theorem nx_class (s r : List UInt8) (d k : Nat) (hs : s.length ≤ 100000) (hr : r.length + 1 ≤ s.length) (hd : d ≤ 4) (hk : Lib.indexByte r 59 = k) :
    cv tab prim K82_0 (nx s (76 :: r) d) = if nameOk (r.take k) = true then nxOk s (r.drop (k + 1)) else nxFail s := by
  have hd' : ¬ 4 < (d : Int) := by omega
  have hl := (idx_lt r 59).1
  rw [hk] at hl
  have hk' : Lib.indexByte (76 :: r) 59 = (k : Int) + 1 := by
    unfold Lib.indexByte
    rw [hk]
    have : ¬ (k : Int) = -1 := by omega
    simp [this]
  have h0 : ¬ (k : Int) + 1 < 0 := by omega
  have hn := ev52 (r.take k) (by rw [List.length_take]; omega)
  have he := nx_end s (r.drop (k + 1)) hs (by rw [List.length_drop]; omega)
  have hw : IntKind.i64.wrap ((k : Int) + 1 + 1) = ((k + 2 : Nat) : Int) := by rw [wrap_small (by omega) (by omega)]; omega
  have b1 : (k : Int) + 1 ≤ (r.length : Int) + 1 := by omega
  have b2 : (0 : Int) ≤ (k : Int) + 1 := by omega
  have b3 : (1 : Int) ≤ (k : Int) + 1 := by omega
  have t1 : ((k : Int) + 1).toNat = k + 1 := by omega
  have b4 : k + 2 ≤ r.length + 1 := by omega
  cases hnm : nameOk (r.take k) <;> rw [hnm] at hn
  · simp [K82_0, nx, nxFail, hd', idxOk, ev95, hk', h0, hn, b1, b2, b3, t1]
  · have hw2 : IntKind.i64.wrap ((k : Int) + 1 + 1) = (k : Int) + 2 := by rw [hw]; omega
    have b5 : (k : Int) + 2 ≤ (r.length : Int) + 1 := by omega
    have b6 : (0 : Int) ≤ (k : Int) + 2 := by omega
    have t2 : ((k : Int) + 2).toNat = k + 2 := by omega
    rw [List.length_drop] at he
    have hb : s.length - (r.length - (k + 1)) ≤ s.length := by omega
    simp [K82_0, nx, nxOk, hd', idxOk, ev95, hk', h0, hn, b1, b2, b3, t1, hw2, b5, b6, t2, he, hb]

theorem nextLoop (s : List UInt8) (hs : s.length ≤ 100000) : ∀ (rest : List UInt8) (d : Nat), rest.length ≤ s.length →
    cj tab prim S82_0 (cv tab prim K82_0 (nx s rest d)) = if fr d rest = 0 then nxFail s else nxOk s (rest.drop (fr d rest)) := by
  intro rest
  induction rest with
  | nil => intro d _; rw [nx_nil]; simp [fr, nxFail]
  | cons c r ih =>
    intro d hr
    rw [List.length_cons] at hr
    by_cases hd : 4 < d
    · rw [nx_deep s _ d hd]
      simp [fr, hd, nxFail]
    · have hd4 : d ≤ 4 := by omega
      by_cases h91 : c = 91
      · subst h91
        rw [nx_brk s r d hd4, cj_g tab prim S82_0 _ 0 findK49, cv_seq', cv_skip, seqK_n, ih (d + 1) (by omega)]
        have hfr : fr d (91 :: r) = if fr (d + 1) r = 0 then 0 else fr (d + 1) r + 1 := by rw [fr, if_neg hd, if_pos rfl]
        rw [hfr]
        by_cases hf : fr (d + 1) r = 0
        · simp [hf]
        · simp [hf]
      · have hfr : fr d (c :: r) = body (c :: r) := by conv => lhs; unfold fr
                                                       simp [hd, h91]
        rw [hfr]
        by_cases hic : c = 73 ∨ c = 67
        · rw [nx_lone s r c d hs hr hd4 hic]
          simp [body, hic, nxOk]
        · by_cases h76 : c = 76
          · subst h76
            by_cases hk : Lib.indexByte r 59 < 0
            · rw [nx_none s r d hd4 hk]
              simp [body, hk, nxFail]
            · obtain ⟨k, hk'⟩ : ∃ k : Nat, Lib.indexByte r 59 = k := ⟨(Lib.indexByte r 59).toNat, by omega⟩
              rw [nx_class s r d k hs hr hd4 hk']
              have hk0 : ¬ (k : Int) < 0 := by omega
              cases hn : nameOk (r.take k) <;> simp [body, hk', hn, hk0, nxOk, nxFail]
          · rw [nx_other s r c d hd4 h91 (fun h => hic (.inl h)) (fun h => hic (.inr h)) h76]
            simp [body, hic, h76, nxFail]

/-- What next answers. -/
def nextV (s : List UInt8) : V := if fr 0 s = 0 then .tup [.str [], .str s] else .tup [.str (s.take (fr 0 s)), .str (s.drop (fr 0 s))]
theorem ev82 (s : List UInt8) (hs : s.length ≤ 100000) : ev tab prim 82 [.str s] [[], []] = some (nextV s, [[], []]) := by
  rw [ev_fn' tab prim (f := 82) rfl _ _ rfl]
  have h := nextLoop s hs s 0 (Nat.le_refl _)
  have hl := fr_le 0 s
  have h1 : cv tab prim S82_0 { env := [(0, .str s)], mem := [[], [], []] } = cv tab prim K82_0 (nx s s 0) := by
    conv => lhs; unfold S82_0
    simp [nx]
  unfold nextV
  by_cases hf : fr 0 s = 0
  · rw [if_pos hf] at h ⊢
    simp only [nxFail] at h
    simp [h1, h]
  · rw [if_neg hf] at h ⊢
    simp only [nxOk, List.length_drop] at h
    have : s.length - (s.length - fr 0 s) = fr 0 s := by omega
    rw [this] at h
    simp [h1, h]

end Go.Proofs.YtgmlanhhjmhmmaaGreat.Ev

/- The law of counts: the loop. -/
import Derived.Test.YtgggjclhadlncaaFu
namespace Go.Proofs.Ytgggjclhadlncaa.Ev
open Go

def ofs : List (List UInt8) := [[73], [67], [76, 65, 59], [91, 73], [91, 91, 76, 66, 99, 95, 49, 59]]
theorem ofs_at {r : Int} (h0 : 0 ≤ r) (h5 : r < 5) : ∃ p, (strs ofs)[r.toNat]? = some (.str p) ∧ Whole p ∧ p.length ≤ 8 := by
  obtain ⟨n, rfl⟩ : ∃ n : Nat, r = n := ⟨r.toNat, by omega⟩
  have hn : n < 5 := by omega
  rw [Int.toNat_natCast]
  match n, hn with
  | 0, _ => exact ⟨_, rfl, w_I, by simp⟩
  | 1, _ => exact ⟨_, rfl, w_C, by simp⟩
  | 2, _ => exact ⟨_, rfl, w_LA, by simp⟩
  | 3, _ => exact ⟨_, rfl, w_BI, by simp⟩
  | 4, _ => exact ⟨_, rfl, w_BBL, by simp⟩
theorem res_at {r : Int} (h0 : 0 ≤ r) (h5 : r < 6) : ∃ p, (V.str [86] :: strs ofs)[r.toNat]? = some (.str p) ∧ (p = [86] ∨ Whole p) ∧ p.length ≤ 8 := by
  obtain ⟨n, rfl⟩ : ∃ n : Nat, r = n := ⟨r.toNat, by omega⟩
  have hn : n < 6 := by omega
  rw [Int.toNat_natCast]
  match n, hn with
  | 0, _ => exact ⟨_, rfl, .inl rfl, by simp⟩
  | 1, _ => exact ⟨_, rfl, .inr w_I, by simp⟩
  | 2, _ => exact ⟨_, rfl, .inr w_C, by simp⟩
  | 3, _ => exact ⟨_, rfl, .inr w_LA, by simp⟩
  | 4, _ => exact ⟨_, rfl, .inr w_BI, by simp⟩
  | 5, _ => exact ⟨_, rfl, .inr w_BBL, by simp⟩

def cSt (l : List Int) (O : List V) (res : Int) (ts : List (List UInt8)) (i : Nat) : St :=
  { env := [(0, .list 1 (ints l) false), (1, .int .i64 res), (5, .list 1 O false), (6, .str (40 :: ts.flatten)), (7, .list 1 (strs ts) true), (8, .int .i64 (i : Int))], mem := [[]] }

theorem flat_len : ∀ (ts : List (List UInt8)), (∀ t ∈ ts, t.length ≤ 8) → ts.flatten.length ≤ 8 * ts.length
  | [], _ => by simp
  | t :: ts, h => by
    have h1 := h t (List.mem_cons_self ..)
    have h2 := flat_len ts fun u hu => h u (List.mem_cons_of_mem _ hu)
    rw [List.flatten_cons, List.length_append, List.length_cons]; omega

set_option maxHeartbeats 8000000 in
theorem c_round (l : List Int) (O : List V) (res : Int) (ts : List (List UInt8)) (i : Nat) (hl : l.length ≤ 12) (hi : i < l.length) (hts : ts.length = i) (hf : ts.flatten.length ≤ 200) (hO : O.length = 5)
    (p : List UInt8) (hp : O[(round l[i] 5).toNat]? = some (.str p)) (hp8 : p.length ≤ 8) :
    cv tab prim L3_0 (cSt l O res ts i) = some (.normal, cSt l O res (ts ++ [p]) (i + 1)) := by
  have h1 : (i : Int) < ((ints l).length : Int) := by simp [ints]; omega
  have h1' : i < (ints l).length := by simpa using h1
  have hx : (ints l)[i] = .int .i64 l[i] := by simp [ints]
  have hw : IntKind.i64.wrap ((i : Int) + 1) = (i : Int) + 1 := wrap_small (by omega) (by omega)
  have hr := round_in l[i] 5 (by omega)
  have h13 := ev13 l[i] 5 (by omega) (by omega)
  have hsl : (strs ts).length = i := by simp [strs, hts]
  have hstr : strs (ts ++ [p]) = strs ts ++ [.str p] := by simp [strs]
  have hfl : (ts ++ [p]).flatten = ts.flatten ++ p := by simp
  have a2 : (i + 1) * 16 ≤ 140737488355328 := by omega
  have a3 : i + 1 ≤ 140737488355328 := by omega
  have a4 : ts.flatten.length + 1 + p.length ≤ 9223372036854775807 := by omega
  have a5 : (i : Int) < (i : Int) + 1 := by omega
  unfold cSt
  rw [hstr, hfl]
  generalize l[i] = x at hx hr h13 hp
  generalize ts.flatten = F at hf a4 ⊢
  generalize strs ts = W at hsl ⊢
  generalize round x 5 = r at hr h13 hp
  obtain ⟨hlt, hpe⟩ := List.getElem?_eq_some_iff.1 hp
  simp [L3_0, h1, h1', hx, hw, h13, hr.1, hr.2, hO, hpe, hsl, a2, a3, a4, a5, idxOk]

theorem c_end (l : List Int) (O : List V) (res : Int) (ts : List (List UInt8)) : cv tab prim L3_0 (cSt l O res ts l.length) =
    some (.exit 0, { env := [(0, .list 1 (ints l) false), (1, .int .i64 res), (5, .list 1 O false), (6, .str (40 :: ts.flatten)), (7, .list 1 (strs ts) true)], mem := [[]] }) := by
  have h : (ints l).length = l.length := by simp [ints]
  simp [L3_0, cSt, h]

theorem cLoop (l : List Int) (res : Int) (hl : l.length ≤ 12) : ∀ (k i : Nat) (ts : List (List UInt8)), i + k = l.length → ts.length = i → (∀ t ∈ ts, Whole t ∧ t.length ≤ 8) →
    ∃ us, us.length = l.length ∧ (∀ t ∈ us, Whole t ∧ t.length ≤ 8) ∧ cv tab prim (.loop L3_0) (cSt l (strs ofs) res ts i) =
      some (.exit 0, { env := [(0, .list 1 (ints l) false), (1, .int .i64 res), (5, .list 1 (strs ofs) false), (6, .str (40 :: us.flatten)), (7, .list 1 (strs us) true)], mem := [[]] }) := by
  intro k
  induction k with
  | zero =>
    intro i ts hi hts hw
    obtain rfl : i = l.length := by omega
    exact ⟨ts, hts, hw, by rw [cv_loop', c_end, roundK_e]⟩
  | succ k ih =>
    intro i ts hi hts hw
    have hlt : i < l.length := by omega
    have hr := round_in l[i] 5 (by omega)
    obtain ⟨p, h1, h2, h3⟩ := ofs_at hr.1 hr.2
    have hf := flat_len ts fun t ht => (hw t ht).2
    obtain ⟨us, u1, u2, u3⟩ := ih (i + 1) (ts ++ [p]) (by omega) (by simp [hts]) (by
      intro t ht
      rcases List.mem_append.1 ht with ht | ht
      · exact hw t ht
      · rw [List.mem_singleton.1 ht]; exact ⟨h2, h3⟩)
    refine ⟨us, u1, u2, ?_⟩
    rw [cv_loop', c_round l (strs ofs) res ts i hl hlt hts (by omega) (by simp [strs, ofs]) p h1 h3, roundK_n]
    exact u3

end Go.Proofs.Ytgggjclhadlncaa.Ev

import Derived.Test.YtpajgenngpjbaaaGreatGh
/- classfile.OwnMethod and classfile.Own: what they answer is what they are given. -/
namespace Go.Proofs.YtpajgenngpjbaaaGreat.Ev
open Go

theorem ev_OwnMethod (m : Mth) (h1 : m.code.length ≤ 100000) (h2 : m.hs.length ≤ 100000) : ev tab prim 59 [m.v] [[], []] = some (m.v, [[], []]) := by
  have b1 : m.code.length * 72 ≤ 140737488355328 := by omega
  have b2 : m.hs.length * 40 ≤ 140737488355328 := by omega
  have p1 : ∀ xs : List V, xs.length * 72 ≤ 140737488355328 → ev tab prim 105 [.list 6 xs false] [[], []] = some (.list 6 xs true, [[], []]) := fun xs hx => by
    rw [ev_prim tab prim rfl]; show (if xs.length * 72 ≤ 140737488355328 then _ else _) = _; rw [if_pos hx]
  have p2 : ∀ xs : List V, xs.length * 40 ≤ 140737488355328 → ev tab prim 106 [.list 4 xs false] [[], []] = some (.list 4 xs true, [[], []]) := fun xs hx => by
    rw [ev_prim tab prim rfl]; show (if xs.length * 40 ≤ 140737488355328 then _ else _) = _; rw [if_pos hx]
  have q1 := p1 (m.code.map Ins.v) (by simpa using b1)
  have q2 := p2 (m.hs.map Hnd.v) (by simpa using b2)
  unfold Mth.v Mth.cells
  rw [ev_fn' tab prim (f := 59) rfl _ _ rfl]
  simp [q1, q2]

theorem flatM_len (ms : List Mth) : (flat (ms.map Mth.v)).length = ms.length * 8 := by
  rw [flat_length (sz := 8) (by
    intro x hx
    obtain ⟨m, _, rfl⟩ := List.mem_map.1 hx
    rfl), List.length_map]
theorem flatM_okc (ms : List Mth) : ∀ c ∈ flat (ms.map Mth.v), okc c = true := by
  intro c hc
  induction ms with
  | nil => simp [flat] at hc
  | cons m r ih =>
    simp only [List.map_cons, flat, List.mem_append] at hc
    rcases hc with hc | hc
    · simp only [Mth.v, V.cells, Mth.cells, List.mem_cons, List.not_mem_nil, or_false] at hc
      rcases hc with rfl | rfl | rfl | rfl | rfl | rfl | rfl | rfl <;> rfl
    · exact ih hc
theorem flatM_at (ms : List Mth) (i : Nat) (h : i < ms.length) : (flat (ms.map Mth.v)).drop (i * 8) = ms[i].cells ++ (flat (ms.map Mth.v)).drop (i * 8 + 8) := by
  have hsz : ∀ x ∈ ms.map Mth.v, x.cells.length = 8 := by
    intro x hx
    obtain ⟨m, _, rfl⟩ := List.mem_map.1 hx
    rfl
  rw [flat_drop hsz, show i * 8 + 8 = (i + 1) * 8 by omega, flat_drop hsz, ← List.map_drop, ← List.map_drop, List.drop_eq_getElem_cons h, List.map_cons]
  rfl

theorem adopt_row {m1 m : Mem} {t sz n : Nat} {cs : List V} (hm : mget m1 0 t = some cs) (h1 : 0 < sz) (h2 : cs ≠ []) (h3 : cs.length = n * sz) (h4 : cs.all okc = true) : adopt m1 (.slc 0 t 0 sz n) m = rowK sz n (mnew 0 cs m) := by
  simp only [adopt, hm, Option.bind_some]
  rw [if_pos ⟨trivial, trivial, h1, h2, h3, h4⟩]
  rfl
theorem frz_row {m : Mem} {t sz n : Nat} {cs : List V} (hm : mget m 0 t = some cs) (h1 : 0 < sz) (h2 : cs ≠ []) (h3 : cs.length = n * sz) (h4 : cs.all okc = true) : frzCell m (.slc 0 t 0 sz n) = some (.list sz (chunk sz n cs) false, mput m 0 t []) := by
  simp only [frzCell, hm, Option.bind_some]
  rw [if_pos ⟨trivial, trivial, h1, h2, h3, h4⟩]
theorem arowOf_row {m : Mem} {t sz n : Nat} {cs : List V} (hm : mget m 0 t = some cs) (h1 : 0 < sz) (h2 : cs ≠ []) (h3 : cs.length = n * sz) (h4 : cs.all okc = true) : arowOf m (.slc 0 t 0 sz n) = some (.list sz (chunk sz n cs) true) := by
  simp only [arowOf, hm, Option.bind_some]
  rw [if_pos ⟨trivial, trivial, h1, h2, h3, h4⟩]
theorem chunkM (ms : List Mth) : chunk 8 ms.length (flat (ms.map Mth.v)) = ms.map Mth.v := by
  induction ms with
  | nil => rfl
  | cons m r ih =>
    rw [List.map_cons]
    show (if 8 = 1 then _ else V.agg ((flat (m.v :: r.map Mth.v)).take 8)) :: chunk 8 r.length ((flat (m.v :: r.map Mth.v)).drop 8) = _
    rw [if_neg (by decide)]
    have e : flat (m.v :: r.map Mth.v) = m.cells ++ flat (r.map Mth.v) := rfl
    rw [e, List.take_left' (show m.cells.length = 8 from rfl), List.drop_left' (show m.cells.length = 8 from rfl), ih]
    rfl
def owSt (b1 b2 : List V) (F : List V) (k i : Nat) : St := { env := [(1, .ptr 2 1 0), (2, .ptr 2 2 0), (18, .slc 0 0 0 8 k), (19, .int .i64 k), (20, .int .i64 i)], mem := [[(1, b1), (2, b2)], [], [(0, F)]] }
theorem ow_loop (b2 : List V) (c0 c1 c2 c3 c4 c5 : V) (ms : List Mth) (h3 : ms.length ≤ 100000) (h4 : ∀ m ∈ ms, m.code.length ≤ 100000 ∧ m.hs.length ≤ 100000) :
    cv tab prim (.loop L41_0) (owSt [c0, c1, c2, c3, c4, c5, .slc 0 0 0 8 ms.length] b2 (flat (ms.map Mth.v)) ms.length 0) =
      some (.exit 0, { env := [(1, .ptr 2 1 0), (2, .ptr 2 2 0)], mem := [[(1, [c0, c1, c2, c3, c4, c5, .slc 0 0 0 8 ms.length]), (2, b2)], [], [(0, flat (ms.map Mth.v))]] }) := by
  refine loop_all (owSt [c0, c1, c2, c3, c4, c5, .slc 0 0 0 8 ms.length] b2 (flat (ms.map Mth.v)) ms.length) ms.length _ (fun i hi => ?_) ?_ (by simp)
  · have hA := flatM_at ms i hi
    have hl := flatM_len ms
    have w1 : IntKind.i64.wrap ((i : Int) + 1) = ((i + 1 : Nat) : Int) := by rw [wrap_small] <;> omega
    have g1 : (i : Int) < (ms.length : Int) := by omega
    have hO := ev_OwnMethod ms[i] (h4 _ (List.getElem_mem hi)).1 (h4 _ (List.getElem_mem hi)).2
    have hS : (flat (ms.map Mth.v)).take (i * 8) ++ (ms[i].cells ++ (flat (ms.map Mth.v)).drop (i * 8 + 8)) = flat (ms.map Mth.v) := by
      rw [← hA, List.take_append_drop]
    have b1 : i * 8 + 8 ≤ (flat (ms.map Mth.v)).length := by omega
    have hx : ((flat (ms.map Mth.v)).drop (i * 8)).take 8 = ms[i].cells := by rw [hA, List.take_left' (show ms[i].cells.length = 8 from rfl)]
    unfold owSt
    generalize flat (ms.map Mth.v) = F at *
    generalize ms[i] = m at *
    generalize ms.length = k at *
    unfold Mth.v at hO
    unfold Mth.cells at hO hS hx
    simp at hS
    have hix : idxOk i k = true := by simp [idxOk]; omega
    simp [L41_0, hix, g1, w1, hx, hO, b1, hS]
  · unfold owSt
    simp [L41_0]
theorem own_tail (n s : List UInt8) (i a : Bool) (im : List (List UInt8)) (fs : List Fld) (F Y : List V) (k : Nat) (hne : F ≠ []) (hFl : F.length = k * 8) (hall : F.all okc = true) (hch : chunk 8 k F = Y)
    (p1 : ev tab prim 83 [.list 1 (im.map V.str) false] [[], []] = some (.list 1 (im.map V.str) true, [[], []]))
    (p2 : ev tab prim 84 [.list 3 (fs.map Fld.v) false] [[], []] = some (.list 3 (fs.map Fld.v) true, [[], []]))
    (p3 : ev tab prim 85 [.list 8 Y false] [[], []] = some (.slc 0 0 0 8 k, [[], [(0, F)]]))
    (hL : cv tab prim (.loop L41_0) (owSt [.str n, .str s, .bool i, .bool a, .list 1 (im.map V.str) true, .list 3 (fs.map Fld.v) true, .slc 0 0 0 8 k] [.str [], .str [], .bool false, .bool false, .list 1 [] true, .list 3 [] true, .list 8 [] true] F k 0) =
      some (.exit 0, { env := [(1, .ptr 2 1 0), (2, .ptr 2 2 0)], mem := [[(1, [.str n, .str s, .bool i, .bool a, .list 1 (im.map V.str) true, .list 3 (fs.map Fld.v) true, .slc 0 0 0 8 k]), (2, [.str [], .str [], .bool false, .bool false, .list 1 [] true, .list 3 [] true, .list 8 [] true])], [], [(0, F)]] })) :
    ev tab prim 41 [.agg [.str n, .str s, .bool i, .bool a, .list 1 (im.map V.str) false, .list 3 (fs.map Fld.v) false, .list 8 Y false]] [[], []] = some (.agg [.str n, .str s, .bool i, .bool a, .list 1 (im.map V.str) false, .list 3 (fs.map Fld.v) false, .list 8 Y false], [[], [(0, [])]]) := by
  have hka : ∀ m : Mem, adopt [[], [(0, F)]] (.slc 0 0 0 8 k) m = rowK 8 k (mnew 0 F m) := fun m => adopt_row (cs := F) (by simp) (by omega) hne hFl hall
  have hfz : Ev.frzCells [.str n, .str s, .bool i, .bool a, .list 1 (im.map V.str) true, .list 3 (fs.map Fld.v) true, .slc 0 0 0 8 k] [[(1, [.str n, .str s, .bool i, .bool a, .list 1 (im.map V.str) true, .list 3 (fs.map Fld.v) true, .slc 0 0 0 8 k]), (2, [.str [], .str [], .bool false, .bool false, .list 1 [] true, .list 3 [] true, .list 8 [] true])], [], [(0, F)]] =
      some ([.str n, .str s, .bool i, .bool a, .list 1 (im.map V.str) false, .list 3 (fs.map Fld.v) false, .list 8 Y false], [[(1, [.str n, .str s, .bool i, .bool a, .list 1 (im.map V.str) true, .list 3 (fs.map Fld.v) true, .slc 0 0 0 8 k]), (2, [.str [], .str [], .bool false, .bool false, .list 1 [] true, .list 3 [] true, .list 8 [] true])], [], [(0, [])]]) := by
    have hf := frz_row (m := [[(1, [.str n, .str s, .bool i, .bool a, .list 1 (im.map V.str) true, .list 3 (fs.map Fld.v) true, .slc 0 0 0 8 k]), (2, [.str [], .str [], .bool false, .bool false, .list 1 [] true, .list 3 [] true, .list 8 [] true])], [], [(0, F)]]) (t := 0) (cs := F) (sz := 8) (n := k) (by simp) (by omega) hne hFl hall
    rw [hch] at hf
    have e1 : ∀ (x : List UInt8) (m : Mem), frzCell m (.str x) = some (.str x, m) := fun _ _ => rfl
    have e2 : ∀ (x : Bool) (m : Mem), frzCell m (.bool x) = some (.bool x, m) := fun _ _ => rfl
    have e3 : ∀ (z : Nat) (x : List V) (o : Bool) (m : Mem), frzCell m (.list z x o) = some (.list z x false, m) := fun _ _ _ _ => rfl
    simp only [Ev.frzCells, e1, e2, e3, hf, Option.bind_some, Option.map_some]
    simp
  rw [ev_fn' tab prim (f := 41) rfl _ _ rfl]
  unfold owSt at hL
  simp only [Int.cast_ofNat_Int] at hL
  simp [p1, p2, p3, hka, rLoadf, hL, hfz]

theorem ev_Own (c : Cls) (h1 : c.im.length ≤ 100000) (h2 : c.fs.length ≤ 100000) (h3 : c.ms.length ≤ 100000) (h4 : ∀ m ∈ c.ms, m.code.length ≤ 100000 ∧ m.hs.length ≤ 100000) : ∃ M, ev tab prim 41 [c.v] [[], []] = some (c.v, M) := by
  obtain ⟨n, s, i, a, im, fs, ms⟩ := c
  have p1 : ev tab prim 83 [.list 1 (im.map V.str) false] [[], []] = some (.list 1 (im.map V.str) true, [[], []]) := by
    rw [ev_prim tab prim rfl]; show (if (im.map V.str).length * 16 ≤ 140737488355328 then _ else _) = _; rw [if_pos (by simp at h1 ⊢; omega)]
  have p2 : ev tab prim 84 [.list 3 (fs.map Fld.v) false] [[], []] = some (.list 3 (fs.map Fld.v) true, [[], []]) := by
    rw [ev_prim tab prim rfl]; show (if (fs.map Fld.v).length * 40 ≤ 140737488355328 then _ else _) = _; rw [if_pos (by simp at h2 ⊢; omega)]
  cases ms with
  | nil =>
    have p3 : ev tab prim 85 [.list 8 [] false] [[], []] = some (.list 8 [] true, [[], []]) := by
      rw [ev_prim tab prim rfl]; rfl
    have hL := loop_all (b := L41_0) (fun _ => { env := [(1, .ptr 2 1 0), (2, .ptr 2 2 0), (18, .list 8 [] false), (19, .int .i64 0), (20, .int .i64 0)], mem := [[(1, [.str n, .str s, .bool i, .bool a, .list 1 (im.map V.str) true, .list 3 (fs.map Fld.v) true, .list 8 [] false]), (2, [.str [], .str [], .bool false, .bool false, .list 1 [] true, .list 3 [] true, .list 8 [] true])], [], []] }) 0
      (.exit 0, { env := [(1, .ptr 2 1 0), (2, .ptr 2 2 0)], mem := [[(1, [.str n, .str s, .bool i, .bool a, .list 1 (im.map V.str) true, .list 3 (fs.map Fld.v) true, .list 8 [] false]), (2, [.str [], .str [], .bool false, .bool false, .list 1 [] true, .list 3 [] true, .list 8 [] true])], [], []] }) (fun i hi => by omega) (by simp [L41_0]) (by simp)
    refine ⟨[[], []], ?_⟩
    unfold Cls.v Cls.cells
    rw [ev_fn' tab prim (f := 41) rfl _ _ rfl]
    simp [p1, p2, p3, adopt, rLoadf, hL, Ev.frzCells, frzCell]
  | cons m0 r =>
    have hFl := flatM_len (m0 :: r)
    have hFo := flatM_okc (m0 :: r)
    have hch := chunkM (m0 :: r)
    have hne : flat ((m0 :: r).map Mth.v) ≠ [] := by intro h0; rw [h0] at hFl; simp at hFl
    have hall : (flat ((m0 :: r).map Mth.v)).all okc = true := List.all_eq_true.2 hFo
    have p3 : ev tab prim 85 [.list 8 ((m0 :: r).map Mth.v) false] [[], []] = some (.slc 0 0 0 8 (m0 :: r).length, [[], [(0, flat ((m0 :: r).map Mth.v))]]) := by
      rw [ev_prim tab prim rfl]; show (if ((m0 :: r).map Mth.v).length * 104 ≤ 140737488355328 then _ else _) = _
      rw [if_pos (by simp at h3 ⊢; omega)]
      simp [cloneM]
    have hL := ow_loop [.str [], .str [], .bool false, .bool false, .list 1 [] true, .list 3 [] true, .list 8 [] true] (.str n) (.str s) (.bool i) (.bool a) (.list 1 (im.map V.str) true) (.list 3 (fs.map Fld.v) true) (m0 :: r) h3 h4
    exact ⟨_, own_tail n s i a im fs _ _ _ hne hFl hall hch p1 p2 p3 hL⟩
end Go.Proofs.YtpajgenngpjbaaaGreat.Ev

/- The given classes, by both. -/
namespace Go.Proofs.YtpajgenngpjbaaaGreat.Ev
open Go

abbrev Nm := List UInt8
def sObject : Nm := [79, 98, 106, 101, 99, 116]
def sThrowable : Nm := [84, 104, 114, 111, 119, 97, 98, 108, 101]
def sTask : Nm := [84, 97, 115, 107]
def sSys : Nm := [83, 121, 115]
def retI : Ins := ⟨36, 0, 0, [], [], []⟩
def initM : Mth := ⟨[60, 105, 110, 105, 116, 62], [40, 41, 86], false, false, 0, 1, [retI], []⟩
def exNames : List Nm := [[78, 117, 108, 108, 69, 120], [66, 111, 117, 110, 100, 115, 69, 120], [83, 116, 111, 114, 101, 69, 120], [67, 97, 115, 116, 69, 120], [65, 114, 105, 116, 104, 69, 120], [77, 101, 109, 69, 120], [68, 101, 112, 116, 104, 69, 120], [73, 110, 105, 116, 69, 120]]
def natM (n d : Nm) (lo : Int) : Mth := ⟨n, d, true, false, 0, lo, [retI], []⟩
/-- The given classes. -/
def builtins : List Cls := ⟨sObject, [], false, false, [], [], [initM]⟩ :: ⟨sThrowable, sObject, false, false, [], [], [initM]⟩ :: (exNames.map fun n => (⟨n, sThrowable, false, false, [], [], [initM]⟩ : Cls)) ++
  [⟨sTask, sObject, true, true, [], [], [⟨[114, 117, 110], [40, 41, 86], false, true, 0, 0, [], []⟩]⟩,
   ⟨sSys, sObject, false, true, [], [], [natM [112, 105, 99, 107] [40, 41, 73] 0, natM [101, 99, 104, 111] [40, 76, 79, 98, 106, 101, 99, 116, 59, 41, 76, 79, 98, 106, 101, 99, 116, 59] 1, natM [102, 114, 101, 115, 104] [40, 41, 76, 79, 98, 106, 101, 99, 116, 59] 0, natM [99, 97, 108, 108] [40, 76, 84, 97, 115, 107, 59, 41, 86] 1]⟩]

def deadB (k : Nat) : Boxes := (List.range k).map fun i => (i, [])
theorem ev_Builtin : ev tab prim 40 [] [[], []] = some (.slc 0 10 0 7 12, [[], deadB 10 ++ [(10, flat (builtins.map Cls.v))]]) := ev_of_fuel 200 (by kernel_rfl)
end Go.Proofs.YtpajgenngpjbaaaGreat.Ev

/- A program in memory; find. -/
namespace Go.Proofs.YtpajgenngpjbaaaGreat.Ev
open Go

def Cls.zero : Cls := ⟨[], [], false, false, [], [], []⟩
def look (S : List Cls) (n : Nm) : Option Cls := S.find? fun c => c.n == n
def ixV (j : Nat) : List Cls → List V
  | [] => []
  | _ :: r => .int .i64 j :: ixV (j + 1) r
theorem ixV_length (j : Nat) (S : List Cls) : (ixV j S).length = S.length := by
  induction S generalizing j with
  | nil => rfl
  | cons c r ih => simp [ixV, ih]

/-- A program that stands in memory: its box, its row of classes, its map. -/
structure Held (M : Mem) (k t q : Nat) (S : List Cls) : Prop where
  len : 2 ≤ M.length
  p : mget M 0 k = some [.slc 0 t 0 7 S.length, .mref q]
  row : mget M 0 t = some (flat (S.map Cls.v))
  at_ : mget M 1 q = some [.mapv none (S.map fun c => .str c.n) (ixV 0 S)]
  few : S.length ≤ 1000

theorem Held.push {M : Mem} {k t q : Nat} {S : List Cls} (h : Held M k t q S) (b : Boxes) : Held (b :: M) k t q S := by
  have hl := h.len
  have n0 : ¬ 0 = M.length := by omega
  have n1 : ¬ 1 = M.length := by omega
  exact ⟨by simp; omega, by rw [mget_cons, if_neg n0]; exact h.p, by rw [mget_cons, if_neg n0]; exact h.row, by rw [mget_cons, if_neg n1]; exact h.at_, h.few⟩

theorem findK_idx (nm : Nm) : ∀ (S : List Cls) (j : Nat), (look S nm = none ∧ findK (S.map fun c => .str c.n) (ixV j S) (.str nm) = none) ∨
    ∃ i, ∃ h : i < S.length, look S nm = some S[i] ∧ findK (S.map fun c => .str c.n) (ixV j S) (.str nm) = some (.int .i64 ((j + i : Nat) : Int))
  | [], j => .inl ⟨rfl, rfl⟩
  | c :: r, j => by
    by_cases hc : c.n = nm
    · refine .inr ⟨0, by simp, ?_, ?_⟩
      · simp [look, hc]
      · simp [findK, ixV, keyEq, hc]
    · have hc1 : (c.n == nm) = false := by simpa using hc
      have hc2 : (nm == c.n) = false := by simpa using fun h => hc h.symm
      rcases findK_idx nm r (j + 1) with ⟨h1, h2⟩ | ⟨i, h, h1, h2⟩
      · refine .inl ⟨?_, ?_⟩
        · simp only [look, List.find?_cons, hc1] at h1 ⊢; exact h1
        · simp only [List.map_cons, ixV, findK, keyEq, hc2, cond_false]; exact h2
      · refine .inr ⟨i + 1, by simp; omega, ?_, ?_⟩
        · simp only [look, List.find?_cons, hc1] at h1 ⊢; simpa using h1
        · simp only [List.map_cons, ixV, findK, keyEq, hc2, cond_false]
          rw [h2]
          congr 3; omega

theorem flatC_len (S : List Cls) : (flat (S.map Cls.v)).length = S.length * 7 := by
  rw [flat_length (sz := 7) (by
    intro x hx
    obtain ⟨m, _, rfl⟩ := List.mem_map.1 hx
    rfl), List.length_map]
theorem flatC_at (S : List Cls) (i : Nat) (h : i < S.length) : ((flat (S.map Cls.v)).drop (i * 7)).take 7 = S[i].cells := by
  have hsz : ∀ x ∈ S.map Cls.v, x.cells.length = 7 := by
    intro x hx
    obtain ⟨m, _, rfl⟩ := List.mem_map.1 hx
    rfl
  rw [flat_drop hsz, ← List.map_drop, List.drop_eq_getElem_cons h, List.map_cons]
  show (S[i].cells ++ _).take 7 = _
  rw [List.take_left' (show S[i].cells.length = 7 from rfl)]

def findV (o : Option Cls) : V := .tup [(o.getD Cls.zero).v, .bool o.isSome]
theorem ev_find {M : Mem} {k t q : Nat} {S : List Cls} (h : Held M k t q S) (nm : Nm) : ev tab prim 54 [.ptr 0 k 0, .str nm] M = some (findV (look S nm), M) := by
  have hl := h.len
  have n0 : ¬ 0 = M.length := by omega
  have n1 : ¬ 1 = M.length := by omega
  have hp := h.p
  have hr := h.row
  have ha := h.at_
  have hf := h.few
  rcases findK_idx nm S 0 with ⟨h1, h2⟩ | ⟨i, hi, h1, h2⟩
  · rw [h1, ev_fn' tab prim (f := 54) rfl _ _ rfl]
    simp [hp, ha, n0, n1, isKey, h2, mapAns, findV, Cls.zero, Cls.v, Cls.cells]
  · have hc := flatC_at S i hi
    have hix : idxOk i S.length = true := by simp [idxOk]; omega
    rw [Nat.zero_add] at h2
    rw [h1, ev_fn' tab prim (f := 54) rfl _ _ rfl]
    generalize flat (S.map Cls.v) = F at *
    generalize S[i] = c at *
    unfold Cls.cells at hc
    simp [hp, ha, hr, n0, n1, isKey, h2, mapAns, findV, hix, hc, Cls.v, Cls.cells]
end Go.Proofs.YtpajgenngpjbaaaGreat.Ev

/- slices.Contains; the chain of supers; Names. -/
namespace Go.Proofs.YtpajgenngpjbaaaGreat.Ev
open Go

theorem siLoop (l : List Nm) (s : Nm) (hl : l.length ≤ maxLen) : ∀ (k i : Nat), i + k = l.length →
    cv tab prim (.loop L134_0) { env := [(0, .list 1 (l.map V.str) false), (1, .str s), (7, .int .i64 l.length), (8, .int .i64 (i : Int))], mem := [[], [], []] } =
      some (match posOf i (l.drop i) s with | some p => (.ret, { env := [(4, .int .i64 (p : Int))], mem := [[], [], []] }) | none => (.exit 0, { env := [], mem := [[], [], []] })) := by
  intro k
  induction k with
  | zero =>
    intro i hi
    rw [cv_loop', List.drop_eq_nil_of_le (by omega)]
    have h1 : ¬ (i : Int) < (l.length : Int) := by omega
    simp [L134_0, h1, posOf]
  | succ k ih =>
    intro i hi
    have hlt : i < l.length := by omega
    have h1 : (i : Int) < (l.length : Int) := by omega
    have hw := wrap_succ hlt hl
    have hx : (l.map V.str)[i]? = some (.str l[i]) := by simp [hlt]
    have := ih (i + 1) (by omega)
    rw [cv_loop', List.drop_eq_getElem_cons hlt, posOf]
    cases h : s == l[i]
    · rw [cond_false, ← this]
      simp [L134_0, h1, idxOk, hx, hw, h]
    · simp [L134_0, h1, idxOk, hx, h]

theorem ev_SIndex (l : List Nm) (s : Nm) (hl : l.length ≤ maxLen) (o : Bool) : ev tab prim 134 [.list 1 (l.map V.str) o, .str s] [[], []] = some (.int .i64 (posI (posOf 0 l s)), [[], []]) := by
  have h := siLoop l s hl l.length 0 (by omega)
  rw [List.drop_zero] at h
  rw [ev_fn' tab prim (f := 134) rfl _ _ rfl]
  simp only [Int.natCast_zero] at h
  cases hp : posOf 0 l s <;> rw [hp] at h <;> simp at h <;> simp [h, posI]

theorem ev_SContains (l : List Nm) (s : Nm) (hl : l.length ≤ maxLen) (o : Bool) : ev tab prim 89 [.list 1 (l.map V.str) o, .str s] [[], []] = some (.bool (l.contains s), [[], []]) := by
  have h := ev_SIndex l s hl false
  have hs := posOf_none l 0 s
  rw [ev_fn' tab prim (f := 89) rfl _ _ rfl]
  rw [← hs]
  cases hp : posOf 0 l s <;> rw [hp] at h <;> simp [h, posI]

/-- Up from a class, till one is not there, or comes again. -/
def chainG (S : List Cls) : Nat → List Nm → Nm → List Nm
  | 0, out, _ => out
  | k + 1, out, nm => match look S nm with
    | some c => if out.contains nm then out else chainG S k (out ++ [nm]) c.s
    | none => out
def chain (S : List Cls) (nm : Nm) : List Nm := chainG S (S.length + 1) [] nm

theorem look_mem {S : List Cls} {n : Nm} {c : Cls} (h : look S n = some c) : c ∈ S ∧ c.n = n := by
  have h1 := List.mem_of_find?_eq_some h
  have h2 := List.find?_some h
  exact ⟨h1, by simpa using h2⟩
theorem look_name {S : List Cls} {n : Nm} {c : Cls} (h : look S n = some c) : n ∈ S.map (·.n) := by
  obtain ⟨h1, h2⟩ := look_mem h
  exact List.mem_map.2 ⟨c, h1, h2⟩
theorem nodup_le {α : Type} [DecidableEq α] {l m : List α} (h : l.Nodup) (hs : ∀ x ∈ l, x ∈ m) : l.length ≤ m.length := by
  induction l generalizing m with
  | nil => simp
  | cons a r ih =>
    have ha := hs a (by simp)
    have hn := List.nodup_cons.1 h
    have h1 := ih hn.2 (m := m.erase a) fun x hx => (List.mem_erase_of_ne (by rintro rfl; exact hn.1 hx)).2 (hs x (by simp [hx]))
    have h2 := List.length_erase_of_mem ha
    have h3 := List.length_pos_of_mem ha
    simp only [List.length_cons]
    omega

def chSt (k : Nat) (nm : Nm) (out : List Nm) (M : Mem) : St := { env := [(0, .ptr 0 k 0), (1, .str nm), (4, .list 1 (out.map V.str) true)], mem := [] :: M }
theorem findKChain : findL S52_0 0 = some (.seq .skip K52_0) := by rfl
theorem ch_body {M : Mem} {k t q : Nat} {S : List Cls} (h : Held M k t q S) (nm : Nm) (out : List Nm) (ho : out.length ≤ 1000) : cv tab prim K52_0 (chSt k nm out M) =
    some (match look S nm with
    | some c => if out.contains nm then (.ret, { env := [(4, .list 1 (out.map V.str) true)], mem := [] :: M }) else (.goto 0, chSt k c.s (out ++ [nm]) M)
    | none => (.ret, { env := [(4, .list 1 (out.map V.str) true)], mem := [] :: M })) := by
  have hl := h.len
  have hf := ev_find (h.push []) nm
  have hc := ev_SContains out nm (by unfold maxLen; omega) false
  have b1 : out.length + 1 ≤ 140737488355328 := by omega
  have b2 : (out.length + 1) * 16 ≤ 140737488355328 := by omega
  unfold chSt
  unfold findV at hf
  cases hk : look S nm with
  | none =>
    rw [hk] at hf
    unfold Cls.v Cls.cells Option.getD Cls.zero at hf
    simp at hf
    simp [K52_0, hf]
  | some c =>
    rw [hk] at hf
    unfold Cls.v Cls.cells Option.getD at hf
    simp at hf
    cases hm : out.contains nm with
    | true =>
      rw [hm] at hc
      simp [K52_0, hf, hc]
    | false =>
      rw [hm] at hc
      simp [K52_0, hf, hc, b1, b2]

theorem ch_go {M : Mem} {k t q : Nat} {S : List Cls} (h : Held M k t q S) : ∀ (n : Nat) (nm : Nm) (out : List Nm), out.Nodup → (∀ x ∈ out, x ∈ S.map (·.n)) → S.length + 1 - out.length = n →
    cj tab prim S52_0 (cv tab prim K52_0 (chSt k nm out M)) = some (.ret, { env := [(4, .list 1 ((chainG S n out nm).map V.str) true)], mem := [] :: M }) := by
  intro n
  induction n with
  | zero =>
    intro nm out hn hs hl
    have := nodup_le hn hs
    simp at this
    omega
  | succ n ih =>
    intro nm out hn hs hl
    have hlen := nodup_le hn hs
    simp at hlen
    rw [ch_body h nm out (by have := h.few; omega)]
    unfold chainG
    cases hk : look S nm with
    | none => simp
    | some c =>
      simp only
      cases hm : out.contains nm with
      | true => simp
      | false =>
        simp only [Bool.false_eq_true, if_false]
        rw [cj_g tab prim S52_0 _ 0 findKChain, cv_seq', cv_skip, seqK_n]
        refine ih c.s (out ++ [nm]) ?_ ?_ (by simp; omega)
        · rw [List.nodup_append]
          refine ⟨hn, by simp, ?_⟩
          intro a ha b hb
          simp at hb
          subst hb
          rintro rfl
          have : out.contains a = true := by simpa using ha
          rw [hm] at this; cases this
        · intro x hx
          rcases List.mem_append.1 hx with hx | hx
          · exact hs x hx
          · simp at hx; subst hx; exact look_name hk

theorem ev_chain {M : Mem} {k t q : Nat} {S : List Cls} (h : Held M k t q S) (nm : Nm) : ev tab prim 52 [.ptr 0 k 0, .str nm] M = some (.list 1 ((chain S nm).map V.str) true, M) := by
  have hg := ch_go h (S.length + 1) nm [] List.nodup_nil (by simp) (by simp)
  unfold chSt at hg
  have hl := h.len
  unfold chain
  rw [ev_fn' tab prim (f := 52) rfl _ _ rfl]
  simp at hg
  simp [S52_0] at hg
  simp [S52_0, hg]
theorem ev_Supers {M : Mem} {k t q : Nat} {S : List Cls} (h : Held M k t q S) (nm : Nm) : ev tab prim 12 [.ptr 0 k 0, .str nm] M = some (.list 1 ((chain S nm).map V.str) true, M) := by
  have hc := ev_chain (h.push []) nm
  rw [ev_fn' tab prim (f := 12) rfl _ _ rfl]
  simp [hc]
end Go.Proofs.YtpajgenngpjbaaaGreat.Ev

/- Memory of the shape frames, objects, arena; the interfaces that are spread. -/
namespace Go.Proofs.YtpajgenngpjbaaaGreat.Ev
open Go

/-- Frames, objects, arena. -/
def mm (F : Mem) (O A : Boxes) : Mem := F ++ [O, A]
theorem mm_cons (b : Boxes) (F : Mem) (O A : Boxes) : b :: mm F O A = mm (b :: F) O A := rfl
@[simp] theorem mm_length (F : Mem) (O A : Boxes) : (mm F O A).length = F.length + 2 := by simp [mm]
@[simp] theorem mget_A (O A : Boxes) (k : Nat) : ∀ F : Mem, mget (mm F O A) 0 k = bget A k
  | [] => by simp [mm]
  | b :: F => by rw [← mm_cons, mget_cons, if_neg (by simp), mget_A O A k F]
@[simp] theorem mget_O (O A : Boxes) (k : Nat) : ∀ F : Mem, mget (mm F O A) 1 k = bget O k
  | [] => by simp [mm]
  | b :: F => by rw [← mm_cons, mget_cons, if_neg (by simp), mget_O O A k F]
@[simp] theorem mput_A (O A : Boxes) (k : Nat) (cs : List V) : ∀ F : Mem, mput (mm F O A) 0 k cs = mm F O (bput A k cs)
  | [] => by simp [mm]
  | b :: F => by rw [← mm_cons, mput_cons, if_neg (by simp), mput_A O A k cs F]; rfl
@[simp] theorem mput_O (O A : Boxes) (k : Nat) (cs : List V) : ∀ F : Mem, mput (mm F O A) 1 k cs = mm F (bput O k cs) A
  | [] => by simp [mm]
  | b :: F => by rw [← mm_cons, mput_cons, if_neg (by simp), mput_O O A k cs F]; rfl
/-- Boxes are numbered from 0. -/
def Num (b : Boxes) : Prop := ∀ p ∈ b, p.1 < b.length
theorem Num.free {b : Boxes} (h : Num b) : bget b b.length = none := by
  have : ∀ (c : Boxes) (n : Nat), (∀ p ∈ c, p.1 < n) → bget c n = none := by
    intro c n
    induction c with
    | nil => intro _; rfl
    | cons p r ih =>
      intro hp
      obtain ⟨s, v⟩ := p
      rw [bget_cons, if_neg (by have := hp _ (List.mem_cons_self ..); simp at this; omega), ih fun q hq => hp q (by simp [hq])]
  exact this b b.length h
theorem Num.add {b : Boxes} (h : Num b) (cs : List V) : Num (b ++ [(b.length, cs)]) := by
  intro p hp
  rcases List.mem_append.1 hp with hp | hp
  · have := h p hp; simp; omega
  · simp at hp; subst hp; simp
theorem bget_add {b : Boxes} {t : Nat} {cs : List V} (h : bget b t = some cs) (x : Boxes) : bget (b ++ x) t = some cs := by
  induction b with
  | nil => cases h
  | cons p r ih =>
    obtain ⟨s, v⟩ := p
    rw [List.cons_append, bget_cons]
    rw [bget_cons] at h
    split
    · rename_i hs; rw [if_pos hs] at h; exact h
    · rename_i hs; rw [if_neg hs] at h; exact ih h
theorem Num.get {b : Boxes} (h : Num b) (cs : List V) : bget (b ++ [(b.length, cs)]) b.length = some cs := by
  have := bget_append b b.length cs b.length h.free
  simpa using this
theorem Num.put {b : Boxes} (h : Num b) (cs ds : List V) : bput (b ++ [(b.length, cs)]) b.length ds = b ++ [(b.length, ds)] := by
  have : ∀ (c : Boxes) (n : Nat), (∀ p ∈ c, p.1 < n) → bput (c ++ [(n, cs)]) n ds = c ++ [(n, ds)] := by
    intro c n
    induction c with
    | nil => intro _; simp
    | cons p r ih =>
      intro hp
      obtain ⟨s, v⟩ := p
      have hs : s < n := hp _ (List.mem_cons_self ..)
      rw [List.cons_append, bput_cons, if_neg (by omega), if_neg (by omega), ih fun q hq => hp q (by simp [hq])]
      rfl
  exact this b b.length h
theorem mnew_A (O A : Boxes) (hA : Num A) (cs : List V) : ∀ F : Mem, mnew 0 cs (mm F O A) = some (A.length, mm F O (A ++ [(A.length, cs)]))
  | [] => by simp [mm, hA.free]
  | b :: F => by rw [← mm_cons, mnew_cons, if_neg (by simp), mnew_A O A hA cs F]; rfl
theorem mnew_O (O A : Boxes) (hO : Num O) (cs : List V) : ∀ F : Mem, mnew 1 cs (mm F O A) = some (O.length, mm F (O ++ [(O.length, cs)]) A)
  | [] => by simp [mm, hO.free]
  | b :: F => by rw [← mm_cons, mnew_cons, if_neg (by simp), mnew_O O A hO cs F]; rfl
theorem Held.more {F F' : Mem} {O A : Boxes} {k t q : Nat} {S : List Cls} (h : Held (mm F O A) k t q S) (x y : Boxes) : Held (mm F' (O ++ x) (A ++ y)) k t q S :=
  ⟨by simp, by rw [mget_A]; exact bget_add (by simpa using h.p) y, by rw [mget_A]; exact bget_add (by simpa using h.row) y, by rw [mget_O]; exact bget_add (by simpa using h.at_) x, h.few⟩
theorem Held.any {F F' : Mem} {O A : Boxes} {k t q : Nat} {S : List Cls} (h : Held (mm F O A) k t q S) : Held (mm F' O A) k t q S := by
  have := h.more (F' := F') [] []
  simpa using this

/-! ### What is spread -/
def imps (S : List Cls) (nm : Nm) : List Nm := ((look S nm).getD Cls.zero).im
def mapO (ks : List Nm) : V := .mapv none (ks.map V.str) (ks.map fun _ => .int .i64 1)
theorem findK_map (ks : List Nm) (x : Nm) : findK (ks.map V.str) (ks.map fun _ => V.int .i64 1) (.str x) = if ks.contains x then some (.int .i64 1) else none := by
  induction ks with
  | nil => rfl
  | cons a r ih =>
    simp only [List.map_cons, findK, keyEq, List.contains_cons, ih]
    cases h : x == a <;> simp
theorem setK_map (ks : List Nm) (x : Nm) (h : ks.contains x = false) : setK (ks.map V.str) (ks.map fun _ => V.int .i64 1) (.str x) (.int .i64 1) = ((ks ++ [x]).map V.str, (ks ++ [x]).map fun _ => V.int .i64 1) := by
  induction ks with
  | nil => rfl
  | cons a r ih =>
    simp only [List.contains_cons, Bool.or_eq_false_iff] at h
    simp only [List.map_cons, setK, keyEq, h.1, cond_false, ih h.2, List.cons_append]
mutual
/-- The interfaces of the classes from one up, among others. -/
def spreadG (S : List Cls) : Nat → Nm → List Nm → List Nm
  | 0, _, ks => ks
  | n + 1, nm, ks => spreadC S n (chain S nm) ks
def spreadC (S : List Cls) (n : Nat) : List Nm → List Nm → List Nm
  | [], ks => ks
  | s :: r, ks => spreadC S n r (spreadI S n (imps S s) ks)
def spreadI (S : List Cls) (n : Nat) : List Nm → List Nm → List Nm
  | [], ks => ks
  | i :: r, ks => spreadI S n r (if ks.contains i then ks else spreadG S n i (ks ++ [i]))
end
end Go.Proofs.YtpajgenngpjbaaaGreat.Ev

/- Prog.spread (walk). -/
namespace Go.Proofs.YtpajgenngpjbaaaGreat.Ev
open Go

theorem chainG_props (S : List Cls) : ∀ (n : Nat) (out : List Nm) (nm : Nm), out.Nodup → (∀ x ∈ out, x ∈ S.map (·.n)) → (chainG S n out nm).Nodup ∧ ∀ x ∈ chainG S n out nm, x ∈ S.map (·.n)
  | 0, out, nm, h1, h2 => ⟨h1, h2⟩
  | n + 1, out, nm, h1, h2 => by
    unfold chainG
    cases hk : look S nm with
    | none => exact ⟨h1, h2⟩
    | some c =>
      simp only
      cases hm : out.contains nm with
      | true => rw [if_pos rfl]; exact ⟨h1, h2⟩
      | false =>
        simp only [Bool.false_eq_true, if_false]
        refine chainG_props S n (out ++ [nm]) c.s ?_ ?_
        · rw [List.nodup_append]
          refine ⟨h1, by simp, ?_⟩
          intro a ha b hb
          simp at hb
          subst hb
          rintro rfl
          have : out.contains a = true := by simpa using ha
          rw [hm] at this; cases this
        · intro x hx
          rcases List.mem_append.1 hx with hx | hx
          · exact h2 x hx
          · simp at hx; subst hx; exact look_name hk
theorem chain_nodup (S : List Cls) (nm : Nm) : (chain S nm).Nodup := (chainG_props S _ [] nm List.nodup_nil (by simp)).1
theorem chain_sub (S : List Cls) (nm : Nm) : ∀ x ∈ chain S nm, x ∈ S.map (·.n) := (chainG_props S _ [] nm List.nodup_nil (by simp)).2
theorem chain_len (S : List Cls) (nm : Nm) : (chain S nm).length ≤ S.length := by
  have := nodup_le (chain_nodup S nm) (chain_sub S nm)
  simpa using this
def univ (S : List Cls) : List Nm := S.flatMap (·.im)
def left_ (U ks : List Nm) : Nat := (U.filter fun x => !ks.contains x).length
theorem imps_univ {S : List Cls} {s i : Nm} (h : i ∈ imps S s) : i ∈ univ S := by
  unfold imps at h
  cases hl : look S s with
  | none => rw [hl] at h; simp [Cls.zero] at h
  | some c =>
    rw [hl] at h
    exact List.mem_flatMap.2 ⟨c, (look_mem hl).1, h⟩
theorem left_lt {U ks : List Nm} {i : Nm} (h1 : i ∈ U) (h2 : ks.contains i = false) : left_ U (ks ++ [i]) < left_ U ks := by
  unfold left_
  have hsub : U.filter (fun x => !(ks ++ [i]).contains x) = (U.filter fun x => !ks.contains x).filter fun x => !(x == i) := by
    rw [List.filter_filter]
    congr 1
    funext x
    simp only [List.contains_eq_mem, List.mem_append, List.mem_singleton]
    by_cases hx : x = i <;> by_cases hk : x ∈ ks <;> simp [hx, hk]
  rw [hsub]
  have hm : i ∈ U.filter fun x => !ks.contains x := List.mem_filter.2 ⟨h1, by rw [h2]; rfl⟩
  clear hsub h1 h2
  generalize U.filter (fun x => !ks.contains x) = L at *
  induction L with
  | nil => cases hm
  | cons a r ih =>
    by_cases ha : a = i
    · subst ha
      have : ((a :: r).filter fun x => !(x == a)) = r.filter fun x => !(x == a) := by rw [List.filter_cons_of_neg (by simp)]
      rw [this]
      have := List.length_filter_le (fun x => !(x == a)) r
      simp only [List.length_cons]; omega
    · rw [List.filter_cons_of_pos (by simpa using ha)]
      have := ih (by
        rcases List.mem_cons.1 hm with h | h
        · exact absurd h.symm ha
        · exact h)
      simp only [List.length_cons]; omega
mutual
theorem spreadG_mem (S : List Cls) : ∀ (n : Nat) (nm : Nm) (ks : List Nm) (x : Nm), x ∈ ks → x ∈ spreadG S n nm ks
  | 0, nm, ks, x, h => by rw [spreadG]; exact h
  | n + 1, nm, ks, x, h => by rw [spreadG]; exact spreadC_mem S n _ ks x h
theorem spreadC_mem (S : List Cls) (n : Nat) : ∀ (l ks : List Nm) (x : Nm), x ∈ ks → x ∈ spreadC S n l ks
  | [], ks, x, h => by rw [spreadC]; exact h
  | s :: r, ks, x, h => by rw [spreadC]; exact spreadC_mem S n r _ x (spreadI_mem S n _ ks x h)
theorem spreadI_mem (S : List Cls) (n : Nat) : ∀ (l ks : List Nm) (x : Nm), x ∈ ks → x ∈ spreadI S n l ks
  | [], ks, x, h => by rw [spreadI]; exact h
  | i :: r, ks, x, h => by
    rw [spreadI]
    refine spreadI_mem S n r _ x ?_
    split
    · exact h
    · exact spreadG_mem S n i _ x (by simp [h])
end
theorem left_le {U ks ks' : List Nm} (h : ∀ x ∈ ks, x ∈ ks') : left_ U ks' ≤ left_ U ks := by
  unfold left_
  refine List.Sublist.length_le ?_
  have : U.filter (fun x => !ks'.contains x) = (U.filter fun x => !ks.contains x).filter fun x => !ks'.contains x := by
    rw [List.filter_filter]
    congr 1
    funext x
    simp only [List.contains_eq_mem]
    by_cases hk : x ∈ ks
    · simp [hk, h x hk]
    · simp [hk]
  rw [this]
  exact List.filter_sublist

section
variable {k t q : Nat} {S : List Cls} {O A : Boxes}
def spM (F : Mem) (O A : Boxes) (ks : List Nm) : Mem := mm F (O ++ [(O.length, [mapO ks])]) A
def inSt (k : Nat) (F : Mem) (O A : Boxes) (ch : List Nm) (i : Nat) (im : List Nm) (j : Nat) (ks : List Nm) : St :=
  { env := [(0, .ptr 0 k 0), (2, .mref O.length), (14, .list 1 (ch.map V.str) true), (15, .int .i64 ch.length), (16, .int .i64 i), (27, .list 1 (im.map V.str) false), (28, .int .i64 im.length), (29, .int .i64 j)], mem := spM ([] :: F) O A ks }
theorem sp_in (hO : Num O) (n : Nat) (hsp : ∀ nm ks F, left_ (univ S) ks < n → ev tab prim 53 [.ptr 0 k 0, .str nm, .mref O.length] (spM F O A ks) = some (.tup [], spM F O A (spreadG S n nm ks)))
    (F : Mem) (ch : List Nm) (i : Nat) (im : List Nm) (him : ∀ x ∈ im, x ∈ univ S) (hl : im.length ≤ 100000) : ∀ (m j : Nat) (ks : List Nm), j + m = im.length → left_ (univ S) ks ≤ n →
    cv tab prim (.loop L53_0) (inSt k F O A ch i im j ks) = some (.exit 2, { env := [(0, .ptr 0 k 0), (2, .mref O.length), (14, .list 1 (ch.map V.str) true), (15, .int .i64 ch.length), (16, .int .i64 i)], mem := spM ([] :: F) O A (spreadI S n (im.drop j) ks) }) := by
  intro m
  induction m with
  | zero =>
    intro j ks hj hks
    have h1 : ¬ (j : Int) < (im.length : Int) := by omega
    rw [cv_loop', List.drop_eq_nil_of_le (by omega), spreadI]
    unfold inSt
    simp [L53_0, h1]
  | succ m ih =>
    intro j ks hj hks
    have hlt : j < im.length := by omega
    have h1 : (j : Int) < (im.length : Int) := by omega
    have w1 : IntKind.i64.wrap ((j : Int) + 1) = ((j + 1 : Nat) : Int) := by rw [wrap_small] <;> omega
    have hU := him im[j] (List.getElem_mem hlt)
    have hg : bget (O ++ [(O.length, [mapO ks])]) O.length = some [mapO ks] := hO.get _
    rw [cv_loop', List.drop_eq_getElem_cons hlt, spreadI]
    have hk := findK_map ks im[j]
    cases hc : ks.contains im[j] with
    | true =>
      have ih1 := ih (j + 1) ks (by omega) hks
      rw [hc, if_pos rfl] at hk
      rw [if_pos rfl, ← ih1]
      unfold inSt spM
      unfold mapO at hg ⊢
      simp [L53_0, h1, idxOk, hlt, w1, hg, isKey, hk, mapAns]
    | false =>
      have hlt2 := left_lt hU hc
      have ih1 := ih (j + 1) (spreadG S n im[j] (ks ++ [im[j]])) (by omega) (by
        have := left_le (U := univ S) (fun x hx => spreadG_mem S n im[j] (ks ++ [im[j]]) x hx)
        omega)
      have hs := hsp im[j] (ks ++ [im[j]]) ([] :: F) (by omega)
      rw [hc, if_neg (by decide)] at hk
      have hset := setK_map ks im[j] hc
      have hput := hO.put [mapO ks] [mapO (ks ++ [im[j]])]
      rw [if_neg (by decide), ← ih1]
      unfold inSt
      unfold spM at hs ⊢
      unfold mapO at hg hput hs ⊢
      have w11 : IntKind.i64.wrap 1 = 1 := by decide
      simp at hset hput hs
      simp [L53_0, h1, idxOk, hlt, w1, hg, isKey, hk, mapAns, hset, hput, hs, w11]

def outSt (k : Nat) (F : Mem) (O A : Boxes) (ch : List Nm) (i : Nat) (ks : List Nm) : St :=
  { env := [(0, .ptr 0 k 0), (2, .mref O.length), (14, .list 1 (ch.map V.str) true), (15, .int .i64 ch.length), (16, .int .i64 i)], mem := spM ([] :: F) O A ks }
theorem sp_out (hO : Num O) (hH : ∀ F ks, Held (spM F O A ks) k t q S) (hlim : ∀ c ∈ S, c.im.length ≤ 100000) (n : Nat) (hsp : ∀ nm ks F, left_ (univ S) ks < n → ev tab prim 53 [.ptr 0 k 0, .str nm, .mref O.length] (spM F O A ks) = some (.tup [], spM F O A (spreadG S n nm ks)))
    (F : Mem) (ch : List Nm) (hl : ch.length ≤ 100000) : ∀ (m i : Nat) (ks : List Nm), i + m = ch.length → left_ (univ S) ks ≤ n →
    cv tab prim (.loop L53_1) (outSt k F O A ch i ks) = some (.exit 0, { env := [], mem := spM ([] :: F) O A (spreadC S n (ch.drop i) ks) }) := by
  intro m
  induction m with
  | zero =>
    intro i ks hj hks
    have h1 : ¬ (i : Int) < (ch.length : Int) := by omega
    rw [cv_loop', List.drop_eq_nil_of_le (by omega), spreadC]
    unfold outSt
    simp [L53_1, h1]
  | succ m ih =>
    intro i ks hj hks
    have hlt : i < ch.length := by omega
    have h1 : (i : Int) < (ch.length : Int) := by omega
    have w1 : IntKind.i64.wrap ((i : Int) + 1) = ((i + 1 : Nat) : Int) := by rw [wrap_small] <;> omega
    have hf := ev_find (hH ([] :: F) ks) ch[i]
    have hil : (imps S ch[i]).length ≤ 100000 := by
      unfold imps
      cases hk : look S ch[i] with
      | none => simp [Cls.zero]
      | some c => exact hlim c (look_mem hk).1
    have hin := sp_in hO n hsp F ch i (imps S ch[i]) (fun x hx => imps_univ hx) hil (imps S ch[i]).length 0 ks (by omega) hks
    have ih1 := ih (i + 1) (spreadI S n (imps S ch[i]) ks) (by omega) (by
      have := left_le (U := univ S) (fun x hx => spreadI_mem S n (imps S ch[i]) ks x hx)
      omega)
    rw [cv_loop', List.drop_eq_getElem_cons hlt, spreadC, ← ih1]
    unfold outSt
    unfold inSt at hin
    rw [List.drop_zero] at hin
    unfold findV at hf
    have him : imps S ch[i] = ((look S ch[i]).getD Cls.zero).im := rfl
    generalize hc : (look S ch[i]).getD Cls.zero = c at *
    generalize (look S ch[i]).isSome = b at *
    unfold Cls.v Cls.cells at hf
    rw [← him] at hf
    generalize imps S ch[i] = im at *
    simp only [Int.cast_ofNat_Int] at hin
    simp [L53_1, h1, idxOk, hlt, w1, hf, hin]

theorem ev_spread (hO : Num O) (hH : ∀ F ks, Held (spM F O A ks) k t q S) (hlim : ∀ c ∈ S, c.im.length ≤ 100000) : ∀ (n : Nat) (nm : Nm) (ks : List Nm) (F : Mem), left_ (univ S) ks < n →
    ev tab prim 53 [.ptr 0 k 0, .str nm, .mref O.length] (spM F O A ks) = some (.tup [], spM F O A (spreadG S n nm ks)) := by
  intro n
  induction n with
  | zero => intro nm ks F h; omega
  | succ n ih =>
    intro nm ks F h
    have hc := ev_chain (hH ([] :: F) ks) nm
    have hcl : (chain S nm).length ≤ 100000 := by have := chain_len S nm; have := (hH [] ks).few; omega
    have hL := sp_out hO hH hlim n ih F (chain S nm) hcl (chain S nm).length 0 ks (by omega) (by omega)
    rw [spreadG]
    unfold outSt at hL
    rw [List.drop_zero] at hL
    simp only [Int.cast_ofNat_Int] at hL
    have hm : ∀ ks, spM ([] :: F) O A ks = [] :: spM F O A ks := fun _ => rfl
    rw [hm] at hc
    simp only [hm] at hL
    rw [ev_fn' tab prim (f := 53) rfl _ _ rfl]
    simp [hc, hL]
end
end Go.Proofs.YtpajgenngpjbaaaGreat.Ev

/- Prog.Interfaces (walk). -/
namespace Go.Proofs.YtpajgenngpjbaaaGreat.Ev
open Go

theorem strsOf_map (l : List Nm) : strsOf (l.map V.str) = some l := by
  induction l with
  | nil => rfl
  | cons a r ih => simp [strsOf, ih]
theorem setK_keys (ks : List Nm) (vs : List V) (x : Nm) (y : V) (hl : vs.length = ks.length) : (setK (ks.map V.str) vs (.str x) y).1 = (if ks.contains x then ks else ks ++ [x]).map V.str := by
  induction ks generalizing vs with
  | nil =>
    cases vs with
    | nil => rfl
    | cons _ _ => simp at hl
  | cons a r ih =>
    cases vs with
    | nil => simp at hl
    | cons v vs =>
      simp only [List.map_cons, setK, keyEq, List.contains_cons]
      cases h : x == a with
      | true => simp
      | false =>
        simp only [cond_false, Bool.false_or]
        rw [ih vs (by simpa using hl)]
        split <;> simp
/-- A program's fuel for its interfaces. -/
def fuelS (S : List Cls) : Nat := (univ S).length + 1
theorem left_fuel (S : List Cls) (ks : List Nm) : left_ (univ S) ks < fuelS S := by
  unfold left_ fuelS
  have := List.length_filter_le (fun x => !ks.contains x) (univ S)
  omega
/-- What is asked for when a class's interfaces are. -/
def ifcs (S : List Cls) (nm : Nm) : List Nm :=
  let ks := spreadG S (fuelS S) nm []
  if ((look S nm).getD Cls.zero).i then (if ks.contains nm then ks else ks ++ [nm]) else ks
def Cls.OwnOk (c : Cls) : Prop := c.im.length ≤ 100000 ∧ c.fs.length ≤ 100000 ∧ c.ms.length ≤ 100000 ∧ ∀ m ∈ c.ms, m.code.length ≤ 100000 ∧ m.hs.length ≤ 100000
structure Lim (S : List Cls) : Prop where
  im : ∀ c ∈ S, c.im.length ≤ 100000
  own : ∀ c ∈ S, c.OwnOk
  un : (univ S).length ≤ 100000
  tx : ∀ x ∈ univ S, x.length ≤ maxLen
  nx : ∀ c ∈ S, c.n.length ≤ maxLen
mutual
/-- What is found is found once, and is a name that stands in the program. -/
theorem spreadG_fine (S : List Cls) : ∀ (n : Nat) (nm : Nm) (ks : List Nm), ks.Nodup → (∀ x ∈ ks, x ∈ univ S) → (spreadG S n nm ks).Nodup ∧ ∀ x ∈ spreadG S n nm ks, x ∈ univ S
  | 0, nm, ks, h1, h2 => by rw [spreadG]; exact ⟨h1, h2⟩
  | n + 1, nm, ks, h1, h2 => by rw [spreadG]; exact spreadC_fine S n _ ks h1 h2
theorem spreadC_fine (S : List Cls) (n : Nat) : ∀ (l ks : List Nm), ks.Nodup → (∀ x ∈ ks, x ∈ univ S) → (spreadC S n l ks).Nodup ∧ ∀ x ∈ spreadC S n l ks, x ∈ univ S
  | [], ks, h1, h2 => by rw [spreadC]; exact ⟨h1, h2⟩
  | s :: r, ks, h1, h2 => by
    rw [spreadC]
    have := spreadI_fine S n (imps S s) ks (fun x hx => imps_univ hx) h1 h2
    exact spreadC_fine S n r _ this.1 this.2
theorem spreadI_fine (S : List Cls) (n : Nat) : ∀ (l ks : List Nm), (∀ x ∈ l, x ∈ univ S) → ks.Nodup → (∀ x ∈ ks, x ∈ univ S) → (spreadI S n l ks).Nodup ∧ ∀ x ∈ spreadI S n l ks, x ∈ univ S
  | [], ks, _, h1, h2 => by rw [spreadI]; exact ⟨h1, h2⟩
  | i :: r, ks, h, h1, h2 => by
    rw [spreadI]
    cases hc : ks.contains i with
    | true => rw [if_pos rfl]; exact spreadI_fine S n r ks (fun x hx => h x (by simp [hx])) h1 h2
    | false =>
      rw [if_neg (by decide)]
      have hni : i ∉ ks := by simpa using hc
      have h3 : (ks ++ [i]).Nodup := by
        rw [List.nodup_append]
        refine ⟨h1, List.nodup_cons.2 ⟨by simp, List.nodup_nil⟩, fun a ha b hb => ?_⟩
        rw [List.mem_singleton.1 hb]
        exact fun e => hni (e ▸ ha)
      have h4 : ∀ x ∈ ks ++ [i], x ∈ univ S := fun x hx => (List.mem_append.1 hx).elim (h2 x) fun hx => by rw [List.mem_singleton.1 hx]; exact h i (by simp)
      have := spreadG_fine S n i (ks ++ [i]) h3 h4
      exact spreadI_fine S n r _ (fun x hx => h x (by simp [hx])) this.1 this.2
end
theorem ifcs_fine {S : List Cls} (h : Lim S) (nm : Nm) : (ifcs S nm).Nodup ∧ ∀ x ∈ ifcs S nm, x.length ≤ maxLen := by
  have h1 := spreadG_fine S (fuelS S) nm [] List.nodup_nil (by simp)
  unfold ifcs
  dsimp only
  split
  · rename_i hi
    split
    · exact ⟨h1.1, fun x hx => h.tx x (h1.2 x hx)⟩
    · rename_i hc
      have hni : nm ∉ spreadG S (fuelS S) nm [] := by simpa using hc
      refine ⟨?_, fun x hx => ?_⟩
      · rw [List.nodup_append]
        refine ⟨h1.1, List.nodup_cons.2 ⟨by simp, List.nodup_nil⟩, fun a ha b hb => ?_⟩
        rw [List.mem_singleton.1 hb]
        exact fun e => hni (e ▸ ha)
      · rcases List.mem_append.1 hx with hx | hx
        · exact h.tx x (h1.2 x hx)
        · rw [List.mem_singleton.1 hx]
          cases hk : look S nm with
          | none => rw [hk] at hi; cases hi
          | some c => rw [← (look_mem hk).2]; exact h.nx c (look_mem hk).1
  · exact ⟨h1.1, fun x hx => h.tx x (h1.2 x hx)⟩
theorem Held.spM {k t q : Nat} {S : List Cls} {F : Mem} {O A : Boxes} (h : Held (mm F O A) k t q S) (F' : Mem) (ks : List Nm) : Held (spM F' O A ks) k t q S := by
  have := h.more (F' := F') [(O.length, [mapO ks])] []
  rw [List.append_nil] at this
  exact this
theorem ev_Keys (F : Mem) (O A : Boxes) (hA : Num A) (u : Nat) : ev tab prim 56 [.mref u] (mm F O A) = some (.func (.func 99) [] [.ptr 0 A.length 0], mm F O (A ++ [(A.length, [.mref u])])) := by
  have hn := mnew_A O A hA [.mref u] ([] :: F)
  have hm : ∀ O A, ([] : Boxes) :: mm F O A = mm ([] :: F) O A := fun _ _ => rfl
  have hm2 : ∀ O A, mm ([] :: F) O A = ([] : Boxes) :: mm F O A := fun _ _ => rfl
  rw [hm2, hm2] at hn
  rw [ev_fn' tab prim (f := 56) rfl _ _ rfl]
  simp only [mnew_cons] at hn
  simp at hn
  simp [hn, ownE]

mutual
theorem spreadG_len (S : List Cls) : ∀ (n : Nat) (nm : Nm) (ks : List Nm), (spreadG S n nm ks).length + left_ (univ S) (spreadG S n nm ks) ≤ ks.length + left_ (univ S) ks
  | 0, nm, ks => by rw [spreadG]; exact Nat.le_refl _
  | n + 1, nm, ks => by rw [spreadG]; exact spreadC_len S n _ ks
theorem spreadC_len (S : List Cls) (n : Nat) : ∀ (l ks : List Nm), (spreadC S n l ks).length + left_ (univ S) (spreadC S n l ks) ≤ ks.length + left_ (univ S) ks
  | [], ks => by rw [spreadC]; exact Nat.le_refl _
  | s :: r, ks => by
    rw [spreadC]
    exact Nat.le_trans (spreadC_len S n r _) (spreadI_len S n _ ks fun x hx => imps_univ hx)
theorem spreadI_len (S : List Cls) (n : Nat) : ∀ (l ks : List Nm), (∀ x ∈ l, x ∈ univ S) → (spreadI S n l ks).length + left_ (univ S) (spreadI S n l ks) ≤ ks.length + left_ (univ S) ks
  | [], ks, _ => by rw [spreadI]; exact Nat.le_refl _
  | i :: r, ks, h => by
    rw [spreadI]
    refine Nat.le_trans (spreadI_len S n r _ fun x hx => h x (by simp [hx])) ?_
    cases hc : ks.contains i with
    | true => rw [if_pos rfl]; exact Nat.le_refl _
    | false =>
      rw [if_neg (by decide)]
      have h1 := left_lt (h i (by simp)) hc
      have h2 := spreadG_len S n i (ks ++ [i])
      have h3 : (ks ++ [i]).length = ks.length + 1 := by simp
      omega
end
theorem ifcs_len {S : List Cls} (h : Lim S) (nm : Nm) : (ifcs S nm).length ≤ 200000 := by
  have h1 := spreadG_len S (fuelS S) nm []
  have h2 := h.un
  have h3 : left_ (univ S) [] ≤ (univ S).length := List.length_filter_le ..
  unfold ifcs
  dsimp only
  split
  · split
    · simp at h1; omega
    · simp at h1 ⊢; omega
  · simp at h1; omega
theorem ev_Sorted (F : Mem) (O A : Boxes) (a u : Nat) (l : List Nm) (vs : List V) (h1 : bget A a = some [.mref u]) (h2 : bget O u = some [.mapv none (l.map V.str) vs]) (hl : l.length ≤ 1000000) (hn : l.Nodup ∧ ∀ s ∈ l, s.length ≤ maxLen) :
    ev tab prim 55 [.func (.func 99) [] [.ptr 0 a 0]] (mm F O A) = some (.list 1 ((sortT l).map V.str) true, mm F O A) := by
  rw [ev_prim tab prim rfl]
  show (keysP (mm F O A) a).map _ = _
  unfold keysP
  rw [mget_A, h1]
  simp only [Option.bind_some, mget_O, h2, strsOf_map, if_pos (And.intro hl hn), Option.map_some]

theorem ev_Interfaces {k t q : Nat} {S : List Cls} {F : Mem} {O A : Boxes} (hO : Num O) (hA : Num A) (h : Held (mm F O A) k t q S) (hlim : Lim S) (nm : Nm) : ∃ x, ev tab prim 13 [.ptr 0 k 0, .str nm] (mm F O A) =
    some (.list 1 ((sortT (ifcs S nm)).map V.str) true, mm F (O ++ [(O.length, [x])]) (A ++ [(A.length, [.mref O.length])])) := by
  have hn := mnew_O O A hO [mapO []] F
  have hs := ev_spread (k := k) hO (fun F ks => h.spM F ks) hlim.im (fuelS S) nm [] ([] :: F) (left_fuel S [])
  have hf := ev_find (h.spM ([] :: F) (spreadG S (fuelS S) nm [])) nm
  have hlen := ifcs_len hlim nm
  have hfin := ifcs_fine hlim nm
  have hm0 : mapO [] = .mapv none [] [] := rfl
  unfold spM at hs hf
  unfold findV at hf
  generalize hks : spreadG S (fuelS S) nm [] = ks at *
  generalize hc : (look S nm).getD Cls.zero = c at *
  generalize hb : (look S nm).isSome = b at *
  have hbi : c.i = true → b = true := by
    intro h1
    subst hc hb
    cases hk : look S nm with
    | none => rw [hk] at h1; cases h1
    | some c => rfl
  have hifc : ifcs S nm = (if c.i then (if ks.contains nm then ks else ks ++ [nm]) else ks) := by
    unfold ifcs; rw [hks, hc]
  have hgk : bget (O ++ [(O.length, [mapO ks])]) O.length = some [mapO ks] := hO.get _
  unfold Cls.v Cls.cells at hf
  have c0 : ∀ O A, mm ([] :: F) O A = ([] : Boxes) :: mm F O A := fun _ _ => rfl
  rw [c0] at hf
  simp only [c0] at hs
  cases hi : c.i with
  | false =>
    rw [hi] at hifc hf
    simp only [Bool.false_eq_true, if_false] at hifc
    rw [hifc] at hlen hfin ⊢
    have hk := ev_Keys ([] :: F) (O ++ [(O.length, [mapO ks])]) A hA O.length
    have hS := ev_Sorted ([] :: F) (O ++ [(O.length, [mapO ks])]) (A ++ [(A.length, [.mref O.length])]) A.length O.length ks _ (hA.get _) hgk (by omega) hfin
    refine ⟨mapO ks, ?_⟩
    rw [c0] at hS
    simp only [c0] at hk
    simp only [hm0] at hn hs
    rw [ev_fn' tab prim (f := 13) rfl _ _ rfl]
    cases b
    all_goals simp [hn, hs, hf, hk, hS]
  | true =>
    obtain rfl := hbi hi
    rw [hi] at hifc hf
    simp only [if_true] at hifc
    have hfk := findK_map ks nm
    have w11 : IntKind.i64.wrap 1 = 1 := by decide
    have w12 : IntKind.i64.wrap (1 + 1) = 2 := by decide
    obtain ⟨v, hv, hv2⟩ : ∃ v : Int, mapAns false (.int .i64 0) (findK (ks.map V.str) (ks.map fun _ => V.int .i64 1) (.str nm)) = .int .i64 v ∧ IntKind.i64.wrap (v + 1) = v + 1 := by
      rw [hfk]
      cases ks.contains nm with
      | true => exact ⟨1, rfl, w12⟩
      | false => exact ⟨0, rfl, w11⟩
    have hkeys := setK_keys ks (ks.map fun _ => V.int .i64 1) nm (.int .i64 (v + 1)) (by simp)
    rw [← hifc] at hkeys
    generalize hsk : (setK (ks.map V.str) (ks.map fun _ => V.int .i64 1) (.str nm) (.int .i64 (v + 1))) = p at *
    obtain ⟨p1, p2⟩ := p
    dsimp only at hkeys
    subst hkeys
    have hput := hO.put [mapO ks] [.mapv none ((ifcs S nm).map V.str) p2]
    have hk := ev_Keys ([] :: F) (O ++ [(O.length, [.mapv none ((ifcs S nm).map V.str) p2])]) A hA O.length
    have hS := ev_Sorted ([] :: F) (O ++ [(O.length, [.mapv none ((ifcs S nm).map V.str) p2])]) (A ++ [(A.length, [.mref O.length])]) A.length O.length (ifcs S nm) _ (hA.get _) (hO.get _) (by omega) hfin
    refine ⟨.mapv none ((ifcs S nm).map V.str) p2, ?_⟩
    rw [c0] at hS
    simp only [c0] at hk
    simp only [hm0] at hn hs
    unfold mapO at hs hf hgk hput
    rw [ev_fn' tab prim (f := 13) rfl _ _ rfl]
    simp [hn, hs, hf, hk, hS, hgk, isKey, hv, hv2, hsk, hput]
end Go.Proofs.YtpajgenngpjbaaaGreat.Ev

/- The pool of a class, as the program makes it. -/
import Derived.Test.YtgmlanhhjmhmmaaGreatGe
namespace Go.Proofs.YtgmlanhhjmhmmaaGreat.Ev
open Go

def fT (f : Fld) : List Tx := [f.n, f.d]
def mT (m : Mth) : List Tx := [m.n, m.d] ++ (m.code.flatMap Ins.texts ++ m.hs.map (·.c))
def Cls.texts (c : Cls) : List Tx := [c.n, c.s] ++ (c.im ++ (c.fs.flatMap fT ++ c.ms.flatMap mT))
def Cls.pool (c : Cls) : List Tx := addL [] c.texts

theorem flatMap_take {α β : Type} (f : α → List β) (l : List α) (i : Nat) (h : i < l.length) : (l.take (i + 1)).flatMap f = (l.take i).flatMap f ++ f l[i] := by
  rw [List.take_succ_eq_append_getElem h, List.flatMap_append]; simp
theorem flatMap_le {α β : Type} (f : α → List β) (l : List α) (i : Nat) (h : i < l.length) : ((l.take i).flatMap f).length + (f l[i]).length ≤ (l.flatMap f).length := by
  have : l.flatMap f = (l.take (i + 1)).flatMap f ++ (l.drop (i + 1)).flatMap f := by rw [← List.flatMap_append, List.take_append_drop]
  rw [this, flatMap_take f l i h]; simp only [List.length_append]; omega
theorem mem_len {α β : Type} (f : α → List β) (l : List α) (i : Nat) : ((l.take i).flatMap f).length ≤ (l.flatMap f).length := by
  have : l.flatMap f = (l.take i).flatMap f ++ (l.drop i).flatMap f := by rw [← List.flatMap_append, List.take_append_drop]
  rw [this, List.length_append]; omega

theorem pLoop0 (c : Cls) (hc : c.Wf) (l0 : List Tx) (b1 : Boxes) (hn : l0.length + (c.fs.flatMap fT).length ≤ 1000000) :
    cv tab prim (.loop L23_0) { env := [(1, .cptr c.cells), (3, .ptr 0 0 0), (27, .list 3 (c.fs.map Fld.v) false), (28, .int .i64 c.fs.length), (29, .int .i64 0)], mem := [] :: b1 :: pM l0 } =
      some (.exit 0, { env := [(1, .cptr c.cells), (3, .ptr 0 0 0)], mem := [] :: b1 :: pM (addL l0 (c.fs.flatMap fT)) }) := by
  refine loop_all (fun i => { env := [(1, .cptr c.cells), (3, .ptr 0 0 0), (27, .list 3 (c.fs.map Fld.v) false), (28, .int .i64 c.fs.length), (29, .int .i64 i)], mem := [] :: b1 :: pM (addL l0 ((c.fs.take i).flatMap fT)) }) c.fs.length _ (fun i hi => ?_) ?_ (by simp)
  · have a1 : (i : Int) < (c.fs.length : Int) := by omega
    have hw := wrap_succ hi hc.fs
    have hx : (c.fs.map Fld.v)[i]? = some (Fld.v c.fs[i]) := by simp [hi]
    have hle := flatMap_le fT c.fs i hi
    have hp := addL_len ((c.fs.take i).flatMap fT) l0
    rw [flatMap_take fT c.fs i hi, addL_append]
    have hA := ev_add (addL l0 ((c.fs.take i).flatMap fT)) (fT c.fs[i]) [] b1 false (by omega)
    simp only [fT, List.map_cons, List.map_nil] at hA
    simp only [fT] at hA ⊢
    generalize addL l0 _ = l at hA ⊢
    simp [L23_0, a1, hw, idxOk, hx, Fld.v, hA]
  · rw [List.take_length]; simp [L23_0]

def qE (c : Cls) (m : Mth) (i : Nat) (r : Env) : Env := (3, .ptr 0 0 0) :: (7, .cptr m.cells) :: (42, .list 8 (c.ms.map Mth.v) false) :: (43, .int .i64 c.ms.length) :: (44, .int .i64 i) :: r
def qE' (c : Cls) (i : Nat) (r : Env) : Env := (3, .ptr 0 0 0) :: (42, .list 8 (c.ms.map Mth.v) false) :: (43, .int .i64 c.ms.length) :: (44, .int .i64 i) :: r

theorem pLoop1 (c : Cls) (m : Mth) (hm : m.Wf) (j : Nat) (l0 : List Tx) (b1 : Boxes) (hn : l0.length + (m.code.flatMap Ins.texts).length ≤ 1000000) :
    cv tab prim (.loop L23_1) { env := qE c m j [(56, .list 6 (m.code.map Ins.v) false), (57, .int .i64 m.code.length), (58, .int .i64 0)], mem := [] :: b1 :: pM l0 } =
      some (.exit 4, { env := qE c m j [], mem := [] :: b1 :: pM (addL l0 (m.code.flatMap Ins.texts)) }) := by
  refine loop_all (fun i => { env := qE c m j [(56, .list 6 (m.code.map Ins.v) false), (57, .int .i64 m.code.length), (58, .int .i64 i)], mem := [] :: b1 :: pM (addL l0 ((m.code.take i).flatMap Ins.texts)) }) m.code.length _ (fun i hi => ?_) ?_ (by simp)
  · have a1 : (i : Int) < (m.code.length : Int) := by omega
    have hw := wrap_succ hi hm.code
    have hx : (m.code.map Ins.v)[i]? = some (Ins.v m.code[i]) := by simp [hi]
    have hle := flatMap_le Ins.texts m.code i hi
    have hp := addL_len ((m.code.take i).flatMap Ins.texts) l0
    rw [flatMap_take Ins.texts m.code i hi, addL_append]
    have hT := ev_texts m.code[i]
    have hA := ev_add (addL l0 ((m.code.take i).flatMap Ins.texts)) m.code[i].texts [] b1 false (by omega)
    generalize m.code[i].texts = tx at hA hT ⊢
    generalize addL l0 _ = l at hA ⊢
    simp only [Ins.v] at hT
    simp [L23_1, qE, a1, hw, idxOk, hx, Ins.v, hT, hA]
  · rw [List.take_length]; simp [L23_1, qE]

theorem pLoop2 (c : Cls) (m : Mth) (hm : m.Wf) (j : Nat) (l0 : List Tx) (b1 : Boxes) (hn : l0.length + m.hs.length ≤ 1000000) :
    cv tab prim (.loop L23_2) { env := qE' c j [(68, .list 4 (m.hs.map Hnd.v) false), (69, .int .i64 m.hs.length), (70, .int .i64 0)], mem := [] :: b1 :: pM l0 } =
      some (.exit 6, { env := qE' c j [], mem := [] :: b1 :: pM (addL l0 (m.hs.map (·.c))) }) := by
  refine loop_all (fun i => { env := qE' c j [(68, .list 4 (m.hs.map Hnd.v) false), (69, .int .i64 m.hs.length), (70, .int .i64 i)], mem := [] :: b1 :: pM (addL l0 ((m.hs.map (·.c)).take i)) }) m.hs.length _ (fun i hi => ?_) ?_ (by simp)
  · have a1 : (i : Int) < (m.hs.length : Int) := by omega
    have hw := wrap_succ hi hm.hs
    have hx : (m.hs.map Hnd.v)[i]? = some (Hnd.v m.hs[i]) := by simp [hi]
    have hp := addL_len ((m.hs.map (·.c)).take i) l0
    rw [List.length_take, List.length_map] at hp
    rw [addL_take _ _ _ (by simpa using hi)]
    have hA := ev_add (addL l0 ((m.hs.map (·.c)).take i)) [m.hs[i].c] [] b1 false (by simp only [List.length_cons, List.length_nil]; omega)
    simp only [List.map_cons, List.map_nil] at hA
    rw [show ∀ l s, addL l [s] = add1 l s from fun _ _ => rfl] at hA
    simp only [List.getElem_map]
    generalize addL l0 _ = l at hA ⊢
    simp [L23_2, qE', a1, hw, idxOk, hx, Hnd.v, hA]
  · rw [List.take_of_length_le (by simp)]; simp [L23_2, qE']

theorem pLoop3 (c : Cls) (hc : c.Wf) (l0 : List Tx) (b1 : Boxes) (hn : l0.length + (c.ms.flatMap mT).length ≤ 1000000) :
    cv tab prim (.loop L23_3) { env := qE' c 0 [], mem := [] :: b1 :: pM l0 } =
      some (.exit 2, { env := [(3, .ptr 0 0 0)], mem := [] :: b1 :: pM (addL l0 (c.ms.flatMap mT)) }) := by
  refine loop_all (fun i => { env := qE' c i [], mem := [] :: b1 :: pM (addL l0 ((c.ms.take i).flatMap mT)) }) c.ms.length _ (fun i hi => ?_) ?_ (by simp)
  · have a1 : (i : Int) < (c.ms.length : Int) := by omega
    have hw := wrap_succ hi hc.ms
    have hx : (c.ms.map Mth.v)[i]? = some (Mth.v c.ms[i]) := by simp [hi]
    have hm := hc.mss _ (List.getElem_mem hi)
    have hle := flatMap_le mT c.ms i hi
    have hp := addL_len ((c.ms.take i).flatMap mT) l0
    rw [flatMap_take mT c.ms i hi, addL_append]
    generalize c.ms[i] = m at hx hm hle ⊢
    generalize addL l0 _ = l at hp ⊢
    have hlen : (mT m).length = 2 + ((m.code.flatMap Ins.texts).length + m.hs.length) := by simp only [mT, List.length_append, List.length_map, List.length_cons, List.length_nil]
    have hA := ev_add l [m.n, m.d] [] b1 false (by simp only [List.length_cons, List.length_nil]; omega)
    have q1 := addL_len [m.n, m.d] l
    have q2 := addL_len (m.code.flatMap Ins.texts) (addL l [m.n, m.d])
    simp only [List.length_cons, List.length_nil] at q1
    have h1 := pLoop1 c m hm i (addL l [m.n, m.d]) b1 (by omega)
    have h2 := pLoop2 c m hm i (addL (addL l [m.n, m.d]) (m.code.flatMap Ins.texts)) b1 (by omega)
    rw [show addL l (mT m) = addL (addL (addL l [m.n, m.d]) (m.code.flatMap Ins.texts)) (m.hs.map (·.c)) from by rw [mT, addL_append, addL_append]]
    generalize addL (addL (addL l [m.n, m.d]) (m.code.flatMap Ins.texts)) (m.hs.map (·.c)) = l3 at h2 ⊢
    generalize addL (addL l [m.n, m.d]) (m.code.flatMap Ins.texts) = l2 at h1 h2
    generalize addL l [m.n, m.d] = l1 at hA h1
    simp only [List.map_cons, List.map_nil] at hA
    simp only [qE, qE', Mth.cells] at h1 h2
    simp [L23_3, qE', a1, hw, idxOk, hx, Mth.v, Mth.cells, hA, h1, h2]
  · rw [List.take_length]; simp [L23_3, qE']

theorem ev_poolOf (c : Cls) (hc : c.Wf) (hn : c.texts.length ≤ 1000000) : ev tab prim 23 [c.v] [[], [], []] = some (.ptr 0 0 0, [] :: pM c.pool) := by
  have hlen : c.texts.length = 2 + (c.im.length + ((c.fs.flatMap fT).length + (c.ms.flatMap mT).length)) := by simp only [Cls.texts, List.length_append, List.length_cons, List.length_nil]
  have hA := ev_add [] [c.n, c.s] [] [] false (by simp)
  have q1 := addL_len [c.n, c.s] []
  have q2 := addL_len c.im (addL [] [c.n, c.s])
  have q3 := addL_len (c.fs.flatMap fT) (addL (addL [] [c.n, c.s]) c.im)
  simp only [List.length_cons, List.length_nil] at q1
  have hB := ev_add (addL [] [c.n, c.s]) c.im [] [] false (by omega)
  have h0 := pLoop0 c hc (addL (addL [] [c.n, c.s]) c.im) [] (by omega)
  have h3 := pLoop3 c hc (addL (addL (addL [] [c.n, c.s]) c.im) (c.fs.flatMap fT)) [] (by omega)
  rw [show c.pool = addL (addL (addL (addL [] [c.n, c.s]) c.im) (c.fs.flatMap fT)) (c.ms.flatMap mT) from by rw [Cls.pool, Cls.texts, addL_append, addL_append, addL_append]]
  generalize addL (addL (addL (addL [] [c.n, c.s]) c.im) (c.fs.flatMap fT)) (c.ms.flatMap mT) = l4 at h3 ⊢
  generalize addL (addL (addL [] [c.n, c.s]) c.im) (c.fs.flatMap fT) = l3 at h0 h3
  generalize addL (addL [] [c.n, c.s]) c.im = l2 at hB h0
  generalize addL [] [c.n, c.s] = l1 at hA hB
  simp only [List.map_cons, List.map_nil] at hA
  have e0 : pM [] = [[(0, [.mapv none [] []])], [(0, [.list 1 [] true, .mref 0])]] := rfl
  rw [e0] at hA
  simp only [qE', Int.natCast_zero] at h3
  unfold Cls.v
  rw [ev_fn' tab prim (f := 23) rfl _ _ rfl]
  unfold Cls.cells at h0 ⊢
  simp [hA, hB, h0, h3]

theorem ev_Pool (c : Cls) (hc : c.Wf) (hn : c.texts.length ≤ 1000000) : ev tab prim 57 [c.v] [[], []] = some (.list 1 (c.pool.map V.str) true, [pO c.pool, [(0, [.list 1 (c.pool.map V.str) false, .mref 0])]]) := by
  have h := ev_poolOf c hc hn
  unfold Cls.v Cls.cells at h ⊢
  rw [ev_fn' tab prim (f := 57) rfl _ _ rfl]
  simp [h, pM, pO, pA]

end Go.Proofs.YtgmlanhhjmhmmaaGreat.Ev

/- The law of writing. -/
import Derived.Test.YtgmlanhhjmhmmaaGreatGw
import Derived.Test.YtgmlanhhjmhmmaaGreatGr
namespace Go.Proofs.YtgmlanhhjmhmmaaGreat.Ev
open Go

/-! A class, as the document writes it: all of it. -/
set_option maxHeartbeats 64000000 in
theorem reLoop5 (c : Cls) (hc : c.Wf) (ho : c.Ok) (l : List Tx) (row : List UInt8) (hl : l.length ≤ 500) (hr : row.length ≤ 34000000) :
    cv tab prim (.loop L14_5) { env := rE c l row [(11, .int .i64 0)], mem := [[], [], []] } = some (.exit 6, { env := [(6, oB (row ++ c.ms.flatMap (mB l)))], mem := [[], [], []] }) := by
  have h := loop_all (b := L14_5) (fun i => { env := rE c l (row ++ (c.ms.take i).flatMap (mB l)) [(11, .int .i64 i)], mem := [[], [], []] }) c.ms.length (.exit 6, { env := [(6, oB (row ++ c.ms.flatMap (mB l)))], mem := [[], [], []] }) (fun i hi => ?_) ?_ (by simp)
  · simpa using h
  · have a1 : (i : Int) < (c.ms.length : Int) := by omega
    have hw := wrap_succ hi hc.ms
    have hx' : (c.ms.map Mth.v)[i]? = some (Mth.v c.ms[i]) := by simp [hi]
    have hm := hc.mss _ (List.getElem_mem hi)
    have hmo := ho.mss _ (List.getElem_mem hi)
    have hlen : ((c.ms.take i).flatMap (mB l)).length ≤ 4000 * 20 := by
      have := flatMap_len (mB l) 4000 (c.ms.take i) fun a ha => mB_len l a (ho.mss a (List.mem_of_mem_take ha))
      rw [List.length_take] at this
      have := ho.ms
      omega
    rw [flatMap_take (mB l) c.ms i hi, ← List.append_assoc]
    have hr' : (row ++ (c.ms.take i).flatMap (mB l)).length ≤ 34080000 := by rw [List.length_append]; omega
    generalize row ++ (c.ms.take i).flatMap (mB l) = r at hr' ⊢
    generalize c.ms[i] = m at *
    have t1 := ev_rplace l m.n (by unfold maxLen; omega) false
    have t2 := ev_rplace l m.d (by unfold maxLen; omega) false
    have t3 := ev_ryes m.s
    have t4 := ev_ryes m.a
    have t5 := ev_rU2 m.code.length
    have t6 := ev_rU2 m.hs.length
    unfold mB
    simp only [← List.append_assoc]
    have p1 := app_oB r (pl l m.n) (by rw [pl_len]; omega)
    have n1 : (r ++ pl l m.n).length ≤ 34080002 := by rw [List.length_append, pl_len]; omega
    generalize r ++ pl l m.n = w1 at *
    have p2 := app_oB w1 (pl l m.d) (by rw [pl_len]; omega)
    have n2 : (w1 ++ pl l m.d).length ≤ 34080004 := by rw [List.length_append, pl_len]; omega
    generalize w1 ++ pl l m.d = w2 at *
    have p3 := app_4 w2 (yesI m.s) (yesI m.a) m.st m.lo (by omega)
    have n3 : (w2 ++ beN (yesI m.s) 1 ++ beN (yesI m.a) 1 ++ beN m.st 1 ++ beN m.lo 1).length ≤ 34080008 := by simp only [List.length_append, beN_len]; omega
    generalize w2 ++ beN (yesI m.s) 1 ++ beN (yesI m.a) 1 ++ beN m.st 1 ++ beN m.lo 1 = w3 at *
    have p4 := app_oB w3 (beN m.code.length 2) (by rw [beN_len]; omega)
    have n4 : (w3 ++ beN m.code.length 2).length ≤ 34080010 := by rw [List.length_append, beN_len]; omega
    generalize w3 ++ beN m.code.length 2 = w4 at *
    have l3 := reLoop3 c l i m hm hmo w4 hl (by omega)
    have n5 : (w4 ++ m.code.flatMap (iB l)).length ≤ 34083010 := by
      have := flatMap_len (iB l) 15 m.code fun a _ => iB_len l a
      have := hmo.code
      rw [List.length_append]; omega
    generalize w4 ++ m.code.flatMap (iB l) = w5 at *
    have p5 := app_oB w5 (beN m.hs.length 2) (by rw [beN_len]; omega)
    have n6 : (w5 ++ beN m.hs.length 2).length ≤ 34083012 := by rw [List.length_append, beN_len]; omega
    generalize w5 ++ beN m.hs.length 2 = w6 at *
    have l4 := reLoop4 c l i m hm hmo w6 hl (by omega)
    generalize w6 ++ m.hs.flatMap (hB l) = w7 at *
    simp only [rM, rE, Cls.cells, Mth.cells] at l3 l4
    simp [L14_5, rE, Cls.cells, a1, hw, idxOk, hx', Mth.v, Mth.cells, t1, t2, t3, t4, t5, t6, p1, p2, p3, p4, p5, l3, l4, -rAppend, -V.strip]
  · rw [List.take_length]; simp [L14_5, rE, Cls.cells, -V.strip]

theorem ev_rEncode_bad (c : Cls) (hc : c.Wf) (hs : c.Small) (he : c.err ≠ 0) : ev tab prim 14 [c.v] [[], []] = some (.tup [.list 1 [] true, .int .i64 c.err], [[], []]) := by
  have h := ev_CheckClass c hc hs
  have e : (c.err == 0) = false := by simpa using he
  generalize c.err = x at *
  unfold Cls.v Cls.cells at *
  rw [ev_fn' tab prim (f := 14) rfl _ _ rfl]
  simp [h, e, bne]

set_option maxHeartbeats 64000000 in
set_option maxRecDepth 10000 in
theorem ev_rEncode_ok (c : Cls) (hc : c.Wf) (hs : c.Small) (he : c.err = 0) : ev tab prim 14 [c.v] [[], []] = some (.tup [oB c.bytes, .int .i64 0], [[], []]) := by
  have ho := c.ok_of he
  have h := ev_CheckClass c hc hs
  rw [he] at h
  have hP := ev_RefPool c hc (by have := hs.tx; omega)
  have hle : ∀ x ∈ c.pool, x.length ≤ 65535 := addL_le 65535 c.texts [] (texts_le c hs) (by simp)
  have hl := ho.pool
  have q1 := ho.im
  have q2 := ho.fs
  have q3 := ho.ms
  unfold Cls.bytes Cls.bytesL
  generalize c.pool = l at *
  have e0 : V.list 1 [.int .u8 83, .int .u8 66, .int .u8 67, .int .u8 49] true = oB [83, 66, 67, 49] := rfl
  have hw0 : ([83, 66, 67, 49] : List UInt8).length ≤ 4 := by simp
  have c0 : rCvb [oB [83, 66, 67, 49]] = some (oB [83, 66, 67, 49]) := rfl
  generalize ([83, 66, 67, 49] : List UInt8) = w0 at *
  have t1 := ev_rU2 l.length
  have t2 := ev_rplace l c.n (by unfold maxLen; omega) false
  have t3 := ev_rplace l c.s (by unfold maxLen; omega) false
  have t4 := ev_ryes c.i
  have t5 := ev_ryes c.a
  have t6 := ev_rU2 c.im.length
  have t7 := ev_rU2 c.fs.length
  have t8 := ev_rU2 c.ms.length
  have p1 := app_oB w0 (beN l.length 2) (by rw [beN_len]; omega)
  have n1 : (w0 ++ beN l.length 2).length ≤ 6 := by rw [List.length_append, beN_len]; omega
  generalize w0 ++ beN l.length 2 = w1 at *
  have l0 := reLoop0 c l w1 hl hle (by omega)
  have n2 : (w1 ++ l.flatMap tB).length ≤ 33000000 := by
    have := flatMap_len tB 65537 l fun a ha => tB_len a (hle a ha)
    rw [List.length_append]; omega
  generalize w1 ++ l.flatMap tB = w2 at *
  have p2 := app_oB w2 (pl l c.n) (by rw [pl_len]; omega)
  have n3 : (w2 ++ pl l c.n).length ≤ 33000002 := by rw [List.length_append, pl_len]; omega
  generalize w2 ++ pl l c.n = w3 at *
  have p3 := app_oB w3 (pl l c.s) (by rw [pl_len]; omega)
  have n4 : (w3 ++ pl l c.s).length ≤ 33000004 := by rw [List.length_append, pl_len]; omega
  generalize w3 ++ pl l c.s = w4 at *
  have p4 := app_2 w4 (yesI c.i) (yesI c.a) (by omega)
  have n5 : (w4 ++ beN (yesI c.i) 1 ++ beN (yesI c.a) 1).length ≤ 33000006 := by simp only [List.length_append, beN_len]; omega
  generalize w4 ++ beN (yesI c.i) 1 ++ beN (yesI c.a) 1 = w5 at *
  have p5 := app_oB w5 (beN c.im.length 2) (by rw [beN_len]; omega)
  have n6 : (w5 ++ beN c.im.length 2).length ≤ 33000008 := by rw [List.length_append, beN_len]; omega
  generalize w5 ++ beN c.im.length 2 = w6 at *
  have l1 := reLoop1 c hc ho l w6 hl (by omega)
  have n7 : (w6 ++ c.im.flatMap (pl l)).length ≤ 33000068 := by
    have := flatMap_len (pl l) 2 c.im fun a _ => by rw [pl_len]; omega
    rw [List.length_append]; omega
  generalize w6 ++ c.im.flatMap (pl l) = w7 at *
  have p6 := app_oB w7 (beN c.fs.length 2) (by rw [beN_len]; omega)
  have n8 : (w7 ++ beN c.fs.length 2).length ≤ 33000070 := by rw [List.length_append, beN_len]; omega
  generalize w7 ++ beN c.fs.length 2 = w8 at *
  have l2 := reLoop2 c hc ho l w8 hl (by omega)
  have n9 : (w8 ++ c.fs.flatMap (fB l)).length ≤ 33000170 := by
    have := flatMap_len (fB l) 5 c.fs fun a _ => by rw [fB_len]; omega
    rw [List.length_append]; omega
  generalize w8 ++ c.fs.flatMap (fB l) = w9 at *
  have p7 := app_oB w9 (beN c.ms.length 2) (by rw [beN_len]; omega)
  have n10 : (w9 ++ beN c.ms.length 2).length ≤ 33000172 := by rw [List.length_append, beN_len]; omega
  generalize w9 ++ beN c.ms.length 2 = w10 at *
  have l5 := reLoop5 c hc ho l w10 hl (by omega)
  generalize w10 ++ c.ms.flatMap (mB l) = w11 at *
  simp only [rE, Cls.cells] at l0 l1 l2 l5
  unfold Cls.v Cls.cells at *
  rw [ev_fn' tab prim (f := 14) rfl _ _ rfl]
  simp [h, hP, e0, c0, l0, l1, l2, l5, t1, t2, t3, t4, t5, t6, t7, t8, p1, p2, p3, p4, p5, p6, p7, -rAppend, -V.strip, -rCvb]
  rfl

/-! The law of writing. -/
theorem unbyte_map : ∀ r : List UInt8, unbyte (r.map byteV) = some r
  | [] => rfl
  | x :: r => by
    rw [List.map_cons, byteV, unbyte, unbyte_map r]
    simp

end Go.Proofs.YtgmlanhhjmhmmaaGreat.Ev

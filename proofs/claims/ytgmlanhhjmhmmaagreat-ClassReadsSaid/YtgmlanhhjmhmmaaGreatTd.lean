/- The law ClassReads: any bytes are a class's, or none's, and it is told where; the first of a class's bytes end too early. -/
import Derived.Test.YtgmlanhhjmhmmaaGreatSe
import Derived.Test.YtgmlanhhjmhmmaaGreatGy
namespace Go.Proofs.YtgmlanhhjmhmmaaGreat.Ev
open Go

theorem ev_RoundL (k n : Int) (hn : 0 < n) (hb : n ≤ 1000000) : ev tab prim 15 [.int .i64 k, .int .i64 n] [[], []] = some (.int .i64 (round k n), [[], []]) := by
  rw [ev_fn' tab prim (f := 15) rfl _ _ rfl]
  have h0 : ¬ n = 0 := by omega
  have hr := round_in k n hn
  unfold round at hr ⊢
  by_cases h : k.tmod n < 0
  · rw [if_pos h] at hr ⊢
    have hw : IntKind.i64.wrap (k.tmod n + n) = k.tmod n + n := wrap_small (by omega) (by omega)
    simp [h0, h, hw]
  · rw [if_neg h] at hr ⊢
    simp [h0, h]

theorem bytes_pos (c : Cls) : 4 < c.bytes.length := by
  unfold Cls.bytes Cls.bytesL
  simp only [List.length_append, beN_len, List.length_cons, List.length_nil]
  omega

set_option maxHeartbeats 16000000 in
theorem ev_lawReads (b : List UInt8) (c : Cls) (hc : c.Wf) (cut : Int) : ev tab prim 4 [.list 1 (b.map byteV) false, c.v, .int .i64 cut] [[], []] = some (.bool true, [[], []]) := by
  have h1 := ev_ClassSize c hc
  by_cases hl : 3000 < (b.length : Int)
  · unfold Cls.v Cls.cells at *
    rw [ev_fn' tab prim (f := 4) rfl _ _ rfl]
    simp [hl, ev_awakeP]
  by_cases hb : 12000 < c.size
  · unfold Cls.v Cls.cells at *
    rw [ev_fn' tab prim (f := 4) rfl _ _ rfl]
    simp [hl, h1, hb, ev_awakeP]
  have hs := c.small (by omega)
  obtain ⟨M, e0⟩ := ev_Dec b false (by omega)
  have hany := decV_any b (by omega)
  have hub := unbyte_bytes b
  -- the second half: the first of c's bytes
  have hbad : c.err ≠ 0 → ev tab prim 14 [c.v] [[], []] = some (.tup [.list 1 [] true, .int .i64 c.err], [[], []]) := ev_rEncode_bad c hc hs
  have hgood : c.err = 0 → ∃ (k : Nat) (M' : Mem) (at_ : Nat), ev tab prim 14 [c.v] [[], []] = some (.tup [.list 1 (c.bytes.map byteV) true, .int .i64 0], [[], []]) ∧
      ev tab prim 15 [.int .i64 cut, .int .i64 c.bytes.length] [[], []] = some (.int .i64 k, [[], []]) ∧ k ≤ c.bytes.length ∧
      ev tab prim 10 [.list 1 ((c.bytes.map byteV).take k) false] [[], []] = some (.tup [zeroC.v, .int .i64 2, .int .i64 at_], M') ∧ at_ ≤ k := fun he => by
    have hbl := c.bytes_le (by omega) (c.ok_of he)
    have hp := bytes_pos c
    have hr := round_in cut c.bytes.length (by omega)
    have hR := ev_RoundL cut c.bytes.length (by omega) (by omega)
    generalize hz : round cut c.bytes.length = z at *
    obtain ⟨k, rfl⟩ : ∃ k : Nat, z = k := ⟨z.toNat, by omega⟩
    obtain ⟨at_, q1, q2⟩ := decV_take c (by omega) he k (by omega)
    obtain ⟨M', e1⟩ := ev_Dec (c.bytes.take k) false (by rw [List.length_take]; omega)
    rw [q1, List.map_take] at e1
    exact ⟨k, M', at_, ev_rEncode_ok c hc hs he, hR, by omega, e1, q2⟩
  clear hs hc
  rcases hany with ⟨x, q, x1, x2, x3, x4⟩ | ⟨e, at_, q, g1, g2, g3⟩
  · have e2 := ev_rEncode_ok x x1 x2 x3
    rw [x4] at e2
    unfold oB at e2
    rw [q] at e0
    clear q
    by_cases he : c.err = 0
    · obtain ⟨k, M', a', f1, f2, f3, f4, f5⟩ := hgood he
      clear hgood hbad
      have hkl : (k : Int) ≤ (c.bytes.length : Int) := by omega
      have hal : (a' : Int) ≤ (k : Int) := by omega
      have hlen : (c.bytes.map byteV).length = c.bytes.length := by simp
      have hlb : (b.map byteV).length = b.length := by simp
      rw [← hlen] at f2 hkl
      rw [← hlb] at hl
      generalize c.bytes.map byteV = cs at *
      generalize b.map byteV = bs at *
      unfold zeroC Cls.v Cls.cells at *
      rw [ev_fn' tab prim (f := 4) rfl _ _ rfl]
      simp [hl, h1, hb]
      simp at e0 e2 f1 f2 f4
      simp [e0, e2, hub, f1, f2, hkl, f4, hal, ev_awakeP]
    · have e3 := hbad he
      have he' : (c.err != 0) = true := by simpa using he
      generalize c.err = er at *
      clear hgood hbad
      have hlb : (b.map byteV).length = b.length := by simp
      rw [← hlb] at hl
      generalize b.map byteV = bs at *
      unfold Cls.v Cls.cells at *
      rw [ev_fn' tab prim (f := 4) rfl _ _ rfl]
      simp [hl, h1, hb]
      simp at e0 e2 e3
      simp [e0, e2, hub, e3, he', ev_awakeP]
  · rw [q] at e0
    clear q
    have n1 : (e == 0) = false := by simp; omega
    have n2 : ¬ (b.length : Int) < (at_ : Int) := by omega
    have n3 : ¬ e < 2 := by omega
    have n4 : ¬ 7 < e := by omega
    have n5 : ¬ (at_ : Int) < 0 := by omega
    have hlb : (b.map byteV).length = b.length := by simp
    rw [← hlb] at hl n2
    by_cases he : c.err = 0
    · obtain ⟨k, M', a', f1, f2, f3, f4, f5⟩ := hgood he
      clear hgood hbad
      have hkl : (k : Int) ≤ (c.bytes.length : Int) := by omega
      have hal : (a' : Int) ≤ (k : Int) := by omega
      have hlen : (c.bytes.map byteV).length = c.bytes.length := by simp
      rw [← hlen] at f2 hkl
      generalize c.bytes.map byteV = cs at *
      generalize b.map byteV = bs at *
      unfold zeroC Cls.v Cls.cells at *
      rw [ev_fn' tab prim (f := 4) rfl _ _ rfl]
      simp [hl, h1, hb]
      simp at e0 f1 f2 f4
      simp [e0, n1, n2, n3, n4, n5, f1, f2, hkl, f4, hal, ev_awakeP]
    · have e3 := hbad he
      have he' : (c.err != 0) = true := by simpa using he
      generalize c.err = er at *
      clear hgood hbad
      generalize b.map byteV = bs at *
      unfold zeroC Cls.v Cls.cells at *
      rw [ev_fn' tab prim (f := 4) rfl _ _ rfl]
      simp [hl, h1, hb]
      simp at e0 e3
      simp [e0, n1, n2, n3, n4, n5, e3, he', ev_awakeP]

end Go.Proofs.YtgmlanhhjmhmmaaGreat.Ev

/- Instructions without the fields that their operation does not have. -/
import Derived.Test.YtgmlanhhjmhmmaaGreatFc
namespace Go.Proofs.YtgmlanhhjmhmmaaGreat.Ev
open Go

theorem ev46_in : (List.range 39).map (fun n : Nat => evF tab prim 40 41 [.int .i64 (n : Int)] [[], []]) = (List.range 39).map (fun n : Nat => some (.tup [.agg (shapeOf (n : Int)), .bool (inR n)], [[], []])) := by kernel_rfl

theorem ev41 (op : Int) : ev tab prim 41 [.int .i64 op] [[], []] = some (.tup [.agg (shapeOf op), .bool (inR op)], [[], []]) := by
  cases h : inR op with
  | true => obtain ⟨n, rfl, hn⟩ := inR_nat h; rw [← h]; exact ev_of_fuel 40 (of_map ev46_in hn)
  | false =>
    have ho := inR_false h
    have h2 : (op == 2) = false := by rw [beq_eq_false_iff_ne]; omega
    have h5 : (op == 5) = false := by rw [beq_eq_false_iff_ne]; omega
    have h6 : (op == 6) = false := by rw [beq_eq_false_iff_ne]; omega
    have h17 : (op == 17) = false := by rw [beq_eq_false_iff_ne]; omega
    have h18 : (op == 18) = false := by rw [beq_eq_false_iff_ne]; omega
    have h19 : (op == 19) = false := by rw [beq_eq_false_iff_ne]; omega
    have h20 : (op == 20) = false := by rw [beq_eq_false_iff_ne]; omega
    have h3 : (op == 3) = false := by rw [beq_eq_false_iff_ne]; omega
    have h21 : (op == 21) = false := by rw [beq_eq_false_iff_ne]; omega
    have h26 : (op == 26) = false := by rw [beq_eq_false_iff_ne]; omega
    have h30 : (op == 30) = false := by rw [beq_eq_false_iff_ne]; omega
    have h31 : (op == 31) = false := by rw [beq_eq_false_iff_ne]; omega
    have h22 : (op == 22) = false := by rw [beq_eq_false_iff_ne]; omega
    have h23 : (op == 23) = false := by rw [beq_eq_false_iff_ne]; omega
    have h24 : (op == 24) = false := by rw [beq_eq_false_iff_ne]; omega
    have h25 : (op == 25) = false := by rw [beq_eq_false_iff_ne]; omega
    have h32 : (op == 32) = false := by rw [beq_eq_false_iff_ne]; omega
    have h33 : (op == 33) = false := by rw [beq_eq_false_iff_ne]; omega
    have h34 : (op == 34) = false := by rw [beq_eq_false_iff_ne]; omega
    have h35 : (op == 35) = false := by rw [beq_eq_false_iff_ne]; omega
    rw [ev_fn' tab prim (f := 41) rfl _ _ rfl, shapeOf_out h]
    by_cases h0 : 1 ≤ op
    · have h1 : ¬ op ≤ 38 := by omega
      simp [h0, h1, h2, h5, h6, h17, h18, h19, h20, h3, h21, h26, h30, h31, h22, h23, h24, h25, h32, h33, h34, h35]
    · simp [h0, h2, h5, h6, h17, h18, h19, h20, h3, h21, h26, h30, h31, h22, h23, h24, h25, h32, h33, h34, h35]

def mI (b : Bool) (a : Int) : Int := bif b then a else 0
def mS (b : Bool) (a : List UInt8) : List UInt8 := bif b then a else []

set_option maxHeartbeats 8000000 in
theorem ev94 (op a b : Int) (c n d : List UInt8) : ev tab prim 94 [.agg [.int .i64 op, .int .i64 a, .int .i64 b, .str c, .str n, .str d]] [[], []] =
    some (.agg [.int .i64 op, .int .i64 (mI (rowB op 1) a), .int .i64 (mI (rowB op 2) b), .str (mS (rowB op 3) c), .str (mS (rowB op 4) n), .str (mS (rowB op 5) d)], [[], []]) := by
  rw [ev_fn' tab prim (f := 94) rfl _ _ rfl]
  have h40 := ev61 op
  rw [shapeOf_eq] at h40
  cases h1 : rowB op 1 <;> cases h2 : rowB op 2 <;> cases h3 : rowB op 3 <;> cases h4 : rowB op 4 <;> cases h5 : rowB op 5 <;> rw [h1, h2, h3, h4, h5] at h40 <;> simp [h40, mI, mS]

set_option maxHeartbeats 8000000 in
theorem ev13 (op a b : Int) (c n d : List UInt8) : ev tab prim 13 [.agg [.int .i64 op, .int .i64 a, .int .i64 b, .str c, .str n, .str d]] [[], []] =
    some (.agg [.int .i64 op, .int .i64 (mI (rowB op 1) a), .int .i64 (mI (rowB op 2) b), .str (mS (rowB op 3) c), .str (mS (rowB op 4) n), .str (mS (rowB op 5) d)], [[], []]) := by
  rw [ev_fn' tab prim (f := 13) rfl _ _ rfl]
  have h40 := ev41 op
  rw [shapeOf_eq] at h40
  cases h1 : rowB op 1 <;> cases h2 : rowB op 2 <;> cases h3 : rowB op 3 <;> cases h4 : rowB op 4 <;> cases h5 : rowB op 5 <;> rw [h1, h2, h3, h4, h5] at h40 <;> simp [h40, mI, mS, idxOk]

end Go.Proofs.YtgmlanhhjmhmmaaGreat.Ev

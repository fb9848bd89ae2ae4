/- Bytes as a class. -/
import Derived.Test.YtgmlanhhjmhmmaaGreatGb
import Derived.Test.YtgmlanhhjmhmmaaGreatGe
import Derived.Test.YtgmlanhhjmhmmaaGreatGd
import Derived.Test.YtgmlanhhjmhmmaaGreatGw
namespace Go.Proofs.YtgmlanhhjmhmmaaGreat.Ev
open Go

/-! The reader, as it goes: its state in plain Lean. -/
/-- A reader's state: the bytes, the place, whether it has failed; the pool; what was met first, and where. -/
structure RS where (b : List UInt8) (at_ : Nat) (fl : Bool) (pool : List (List UInt8)) (e : Int) (pl : Nat)
structure RS.Ok (S : RS) : Prop where
  (len : S.b.length ≤ 1000000) (at_ : S.at_ ≤ S.b.length) (pool : S.pool.length ≤ 1000000) (pl : S.pl ≤ S.b.length)
  (ee : S.e = 0 ∨ (2 ≤ S.e ∧ S.e ≤ 4))

def RS.arena (S : RS) : Boxes := [(0, [.list 1 (S.b.map byteV) false, .int .i64 S.at_, .bool S.fl])]
def RS.own (S : RS) : List V := [.ptr 0 0 0, .list 1 (S.pool.map V.str) true, .int .i64 S.e, .int .i64 S.pl]
/-- Decode's memory: its class's box, the reader's; other frames above it. -/
def dM (fr : Mem) (cb : List V) (S : RS) : Mem := fr ++ [[(2, cb), (10, S.own)], [], S.arena]
theorem dM_cons (b : Boxes) (fr : Mem) (cb : List V) (S : RS) : dM (b :: fr) cb S = b :: dM fr cb S := nrfl rfl
@[simp] theorem len_dM (fr : Mem) (cb : List V) (S : RS) : (dM fr cb S).length = fr.length + 3 := by simp [dM]
theorem mget_apr (m : Mem) (k t : Nat) (h : k < m.length) : ∀ fr : Mem, mget (fr ++ m) k t = mget m k t
  | [] => rfl
  | b :: fr => by
    rw [List.cons_append, mget, beq_ne (by simp; omega), cond_false, mget_apr m k t h fr]
theorem mput_apr (m : Mem) (k t : Nat) (v : List V) (h : k < m.length) : ∀ fr : Mem, mput (fr ++ m) k t v = fr ++ mput m k t v
  | [] => rfl
  | b :: fr => by
    rw [List.cons_append, mput, beq_ne (by simp; omega), cond_false, mput_apr m k t v h fr]; rfl
/-- The same, of whatever cells. -/
def dC (fr : Mem) (cb own ar : List V) : Mem := fr ++ [[(2, cb), (10, own)], [], [(0, ar)]]
theorem dM_dC (fr : Mem) (cb : List V) (S : RS) : dM fr cb S = dC fr cb [.ptr 0 0 0, .list 1 (S.pool.map V.str) true, .int .i64 S.e, .int .i64 S.pl] [.list 1 (S.b.map byteV) false, .int .i64 S.at_, .bool S.fl] := nrfl rfl
@[simp] theorem len_dC (fr : Mem) (cb own ar : List V) : (dC fr cb own ar).length = fr.length + 3 := by simp [dC]
@[simp] theorem mget_dC0 (fr : Mem) (cb own ar : List V) : mget (dC fr cb own ar) 0 0 = some ar := by
  rw [dC, mget_apr _ _ _ (by simp)]; simp
@[simp] theorem mget_dC2 (fr : Mem) (cb own ar : List V) : mget (dC fr cb own ar) 2 10 = some own := by
  rw [dC, mget_apr _ _ _ (by simp)]; simp
@[simp] theorem mput_dC0 (fr : Mem) (cb own ar v : List V) : mput (dC fr cb own ar) 0 0 v = dC fr cb own v := by
  rw [dC, mput_apr _ _ _ _ (by simp)]; simp [dC]
@[simp] theorem mput_dC2 (fr : Mem) (cb own ar v : List V) : mput (dC fr cb own ar) 2 10 v = dC fr cb v ar := by
  rw [dC, mput_apr _ _ _ _ (by simp)]; simp [dC]
theorem dm2 (k : Nat) : ¬ 2 = k + 3 := by omega
theorem dm0 (k : Nat) : ¬ 0 = k + 3 := by omega

/-- The next n bytes; none: the reader has failed, at the place `from`. -/
def RS.take (S : RS) (n from_ : Nat) : (List UInt8 × Bool) × RS :=
  if S.fl then (([], false), S) else if S.b.length < S.at_ + n then (([], false), { S with fl := true, at_ := from_ }) else (((S.b.take (S.at_ + n)).drop S.at_, true), { S with at_ := S.at_ + n })
theorem RS.take_ok {S : RS} (h : S.Ok) (n from_ : Nat) (hf : from_ ≤ S.b.length) : (S.take n from_).2.Ok := by
  unfold RS.take
  split
  · exact h
  · split
    · exact ⟨h.len, hf, h.pool, h.pl, h.ee⟩
    · exact ⟨h.len, by simp only; omega, h.pool, h.pl, h.ee⟩

theorem findKTake : findL S92_0 0 = some (.seq .skip K92_0) := by rfl

/-- The same, of whatever the reader of classes has. -/
def dW (fr : Mem) (cb ow : List V) (S : RS) : Mem := dC fr cb ow [.list 1 (S.b.map byteV) false, .int .i64 S.at_, .bool S.fl]
theorem dW_cons (b : Boxes) (fr : Mem) (cb ow : List V) (S : RS) : dW (b :: fr) cb ow S = b :: dW fr cb ow S := nrfl rfl
theorem dM_dW (fr : Mem) (cb : List V) (S : RS) : dM fr cb S = dW fr cb S.own S := nrfl rfl
theorem ev_AtW (fr : Mem) (cb ow : List V) (S : RS) : ev tab prim 35 [.ptr 0 0 0] (dW fr cb ow S) = some (.int .i64 S.at_, dW fr cb ow S) := by
  rw [ev_fn' tab prim (f := 35) rfl _ _ rfl]
  unfold dW
  simp [dm0]

set_option maxHeartbeats 4000000 in
theorem ev_takeW (fr : Mem) (cb ow : List V) (S : RS) (h : S.Ok) (n from_ : Nat) (hn : n ≤ 1000000) :
    ev tab prim 92 [.ptr 0 0 0, .int .i64 n, .int .i64 from_] (dW fr cb ow S) =
      some (.tup [.list 1 ((S.take n from_).1.1.map byteV) (!(S.take n from_).1.2), .bool (S.take n from_).1.2], dW fr cb ow (S.take n from_).2) := by
  have h1 := h.len
  have h2 := h.at_
  have w1 : IntKind.i64.wrap ((S.b.length : Int) - S.at_) = (S.b.length : Int) - S.at_ := wrap_small (by omega) (by omega)
  have w2 : IntKind.i64.wrap ((S.at_ : Int) + n) = ((S.at_ + n : Nat) : Int) := by rw [wrap_small (by omega) (by omega)]; omega
  rw [ev_fn' tab prim (f := 92) rfl _ _ rfl]
  unfold RS.take dW
  cases hf : S.fl
  · by_cases hl : S.b.length < S.at_ + n
    · have hl' : (S.b.length : Int) - S.at_ < n := by omega
      have s1 : cv tab prim S92_0 { env := [(0, .ptr 0 0 0), (1, .int .i64 n), (2, .int .i64 from_)], mem := [] :: dC fr cb ow [.list 1 (S.b.map byteV) false, .int .i64 S.at_, .bool false] } =
          some (.goto 0, { env := [], mem := [] :: dC fr cb ow [.list 1 (S.b.map byteV) false, .int .i64 from_, .bool true] }) := by
        unfold S92_0
        simp [dm0, w1, hl']
      have s2 : cj tab prim S92_0 (some (.goto 0, { env := [], mem := [] :: dC fr cb ow [.list 1 (S.b.map byteV) false, .int .i64 from_, .bool true] })) = some (.ret, { env := [(6, .list 1 [] true), (7, .bool false)], mem := [] :: dC fr cb ow [.list 1 (S.b.map byteV) false, .int .i64 from_, .bool true] }) := by
        rw [cj_g tab prim S92_0 _ 0 findKTake, cv_seq', cv_skip, seqK_n]
        simp [K92_0]
      simp [s1, s2, hl]
    · have hl' : ¬ (S.b.length : Int) - S.at_ < n := by omega
      have g1 : 0 ≤ ((S.at_ + n : Nat) : Int) ∧ ((S.at_ + n : Nat) : Int) ≤ (S.b.length : Int) ∧ 0 ≤ (S.at_ : Int) ∧ (S.at_ : Int) ≤ ((S.at_ + n : Nat) : Int) := by omega
      have g2 : S.at_ + n ≤ S.b.length := by omega
      have s1 : cv tab prim S92_0 { env := [(0, .ptr 0 0 0), (1, .int .i64 n), (2, .int .i64 from_)], mem := [] :: dC fr cb ow [.list 1 (S.b.map byteV) false, .int .i64 S.at_, .bool false] } =
          some (.ret, { env := [(6, .list 1 (((S.b.take (S.at_ + n)).drop S.at_).map byteV) false), (7, .bool true)], mem := [] :: dC fr cb ow [.list 1 (S.b.map byteV) false, .int .i64 (S.at_ + n : Nat), .bool false] }) := by
        unfold S92_0
        have g3 : (S.at_ : Int) ≤ (S.at_ : Int) + n := by omega
        have g4 : (0 : Int) ≤ (S.at_ : Int) + n := by omega
        have g5 : (S.at_ : Int) + n ≤ (S.b.length : Int) := by omega
        have g6 : ((S.at_ : Int) + n).toNat = S.at_ + n := by omega
        simp at w2
        simp [dm0, w1, w2, hl', g3, g4, g5, g6, List.map_take, List.map_drop]
      simp [s1, hl]
  · have s1 : cv tab prim S92_0 { env := [(0, .ptr 0 0 0), (1, .int .i64 n), (2, .int .i64 from_)], mem := [] :: dC fr cb ow [.list 1 (S.b.map byteV) false, .int .i64 S.at_, .bool true] } =
        some (.goto 0, { env := [], mem := [] :: dC fr cb ow [.list 1 (S.b.map byteV) false, .int .i64 S.at_, .bool true] }) := by
      unfold S92_0
      simp [dm0]
    have s2 : cj tab prim S92_0 (some (.goto 0, { env := [], mem := [] :: dC fr cb ow [.list 1 (S.b.map byteV) false, .int .i64 S.at_, .bool true] })) = some (.ret, { env := [(6, .list 1 [] true), (7, .bool false)], mem := [] :: dC fr cb ow [.list 1 (S.b.map byteV) false, .int .i64 S.at_, .bool true] }) := by
      rw [cj_g tab prim S92_0 _ 0 findKTake, cv_seq', cv_skip, seqK_n]
      simp [K92_0]
    simp [s1, s2, hf]

theorem ev_At (fr : Mem) (cb : List V) (S : RS) : ev tab prim 35 [.ptr 0 0 0] (dM fr cb S) = some (.int .i64 S.at_, dM fr cb S) := ev_AtW fr cb S.own S
theorem take_own (S : RS) (n f : Nat) : (S.take n f).2.own = S.own := by
  unfold RS.take
  split
  · rfl
  · split <;> rfl

/-! The reader: numbers, texts, what was met. -/
def numF (bs : List UInt8) : Nat := bs.foldl (fun v c => v * 256 + c.toNat) 0
theorem numF_lt (bs : List UInt8) : numF bs < 256 ^ bs.length := by
  have go : ∀ (bs : List UInt8) (v k : Nat), v < 256 ^ k → bs.foldl (fun v c => v * 256 + c.toNat) v < 256 ^ (k + bs.length) := by
    intro bs
    induction bs with
    | nil => intro v k h; simpa using h
    | cons c r ih =>
      intro v k h
      have hc : c.toNat < 256 := c.toNat_lt
      have := ih (v * 256 + c.toNat) (k + 1) (by rw [Nat.pow_succ]; omega)
      rw [List.foldl_cons, List.length_cons, show k + (r.length + 1) = k + 1 + r.length by omega]
      exact this
  have := go bs 0 0 (by simp)
  simpa [numF] using this

theorem or_byte (v c : Nat) (hv : v < 1099511627776) (hc : c < 256) : IntKind.i64.wrap (((((v : Int) * 256 % 18446744073709551616).toNat ||| c : Nat)) : Int) = (v : Int) * 256 + c := by
  have e : ((v : Int) * 256 % 18446744073709551616).toNat = 2 ^ 8 * v := by omega
  rw [e, ← Nat.two_pow_add_eq_or_of_lt (i := 8) (b := c) hc v]
  rw [wrap_small (by omega) (by omega)]
  omega

/-- The number of the next n bytes. -/
def RS.num (S : RS) (n : Nat) : Nat × RS := (numF (S.take n S.at_).1.1, (S.take n S.at_).2)
theorem RS.num_ok {S : RS} (h : S.Ok) (n : Nat) : (S.num n).2.Ok := S.take_ok h n _ h.at_
theorem take_len (S : RS) (h : S.Ok) (n f : Nat) : (S.take n f).1.1.length ≤ n := by
  unfold RS.take
  split
  · simp
  · split
    · simp
    · simp; omega
theorem RS.num_lt (S : RS) (h : S.Ok) (n : Nat) : (S.num n).1 < 256 ^ n :=
  Nat.lt_of_lt_of_le (numF_lt _) (Nat.pow_le_pow_right (by omega) (take_len S h n _))

theorem numLoop (m : Mem) (bs : List UInt8) (hl : bs.length ≤ 4) : cv tab prim (.loop L89_0) { env := [(4, .int .i64 0), (17, .list 1 (bs.map byteV) false), (18, .int .i64 bs.length), (19, .int .i64 0)], mem := m } =
    some (.exit 0, { env := [(4, .int .i64 (numF bs))], mem := m }) := by
  have h := loop_all (b := L89_0) (fun i => { env := [(4, .int .i64 (numF (bs.take i))), (17, .list 1 (bs.map byteV) false), (18, .int .i64 bs.length), (19, .int .i64 i)], mem := m }) bs.length (.exit 0, { env := [(4, .int .i64 (numF bs))], mem := m }) (fun i hi => ?_) ?_ (by simp)
  · simpa [numF] using h
  · have a1 : (i : Int) < (bs.length : Int) := by omega
    have hw := wrap_succ hi (by unfold maxLen; omega)
    have hx : (bs.map byteV)[i]? = some (byteV bs[i]) := by simp [hi]
    have hv := numF_lt (bs.take i)
    rw [List.length_take] at hv
    have hv2 : 256 ^ (min i bs.length) ≤ 256 ^ 3 := Nat.pow_le_pow_right (by omega) (by omega)
    have hc : bs[i].toNat < 256 := bs[i].toNat_lt
    have e : numF (bs.take (i + 1)) = numF (bs.take i) * 256 + bs[i].toNat := by
      unfold numF; rw [List.take_succ_eq_append_getElem hi, List.foldl_append]; rfl
    rw [e]
    generalize numF (bs.take i) = v at *
    generalize bs[i] = b at *
    have hor := or_byte v b.toNat (by omega) hc
    have hw1 : IntKind.i64.wrap ((v : Int) * 256) = (v : Int) * 256 := wrap_small (by omega) (by omega)
    have hw2 : IntKind.i64.wrap (b.toNat : Int) = (b.toNat : Int) := wrap_small (by omega) (by omega)
    have hb : IntKind.i64.bits = 64 := rfl
    simp [L89_0, a1, hw, idxOk, hx, byteV, hw1, hw2, hor, hb]
  · rw [List.take_length]; simp [L89_0]

theorem ev_numW (fr : Mem) (cb ow : List V) (S : RS) (h : S.Ok) (n : Nat) (hn : n ≤ 4) :
    ev tab prim 89 [.ptr 0 0 0, .int .i64 n] (dW fr cb ow S) = some (.int .i64 (S.num n).1, dW fr cb ow (S.num n).2) := by
  have h1 := ev_AtW ([] :: fr) cb ow S
  have h2 := ev_takeW ([] :: fr) cb ow S h n S.at_ (by omega)
  have hl := take_len S h n S.at_
  simp only [dW_cons] at h1 h2
  unfold RS.num
  generalize (S.take n S.at_).1.1 = bs at *
  generalize (S.take n S.at_).1.2 = ok at *
  generalize (S.take n S.at_).2 = S' at *
  have hL := numLoop ([] :: dW fr cb ow S') bs (by omega)
  rw [ev_fn' tab prim (f := 89) rfl _ _ rfl]
  simp [h1, h2, hL]

theorem num_own (S : RS) (n : Nat) : (S.num n).2.own = S.own := take_own S n _
theorem ev_rnum (fr : Mem) (cb : List V) (S : RS) (h : S.Ok) (n : Nat) (hn : n ≤ 4) :
    ev tab prim 89 [.ptr 0 0 0, .int .i64 n] (dM fr cb S) = some (.int .i64 (S.num n).1, dM fr cb (S.num n).2) := by
  rw [dM_dW, dM_dW, num_own]
  exact ev_numW fr cb S.own S h n hn

theorem ev_rU1 (fr : Mem) (cb : List V) (S : RS) (h : S.Ok) : ev tab prim 65 [.ptr 0 0 0] (dM fr cb S) = some (.int .i64 (S.num 1).1, dM fr cb (S.num 1).2) := by
  have h1 := ev_rnum ([] :: fr) cb S h 1 (by omega)
  simp only [dM_cons] at h1
  rw [ev_fn' tab prim (f := 65) rfl _ _ rfl]
  simp at h1
  simp [h1]
theorem ev_U2W (fr : Mem) (cb ow : List V) (S : RS) (h : S.Ok) : ev tab prim 91 [.ptr 0 0 0] (dW fr cb ow S) = some (.int .i64 (S.num 2).1, dW fr cb ow (S.num 2).2) := by
  have h1 := ev_numW ([] :: fr) cb ow S h 2 (by omega)
  simp only [dW_cons] at h1
  rw [ev_fn' tab prim (f := 91) rfl _ _ rfl]
  simp at h1
  simp [h1]
theorem ev_rdU2 (fr : Mem) (cb : List V) (S : RS) (h : S.Ok) : ev tab prim 91 [.ptr 0 0 0] (dM fr cb S) = some (.int .i64 (S.num 2).1, dM fr cb (S.num 2).2) := by
  rw [dM_dW, dM_dW, num_own]
  exact ev_U2W fr cb S.own S h

/-- The next four bytes' number, with a sign. -/
def RS.i4 (S : RS) : Int × RS := (IntKind.i32.wrap ((S.num 4).1 : Int), (S.num 4).2)
theorem i32_range (z : Int) : -2147483648 ≤ IntKind.i32.wrap z ∧ IntKind.i32.wrap z ≤ 2147483647 := by
  have e : IntKind.i32.wrap z = if z % 4294967296 ≥ 2147483648 then z % 4294967296 - 4294967296 else z % 4294967296 := by
    show (if (true && decide (z % (2 ^ 32) ≥ (2 ^ (32 - 1) : Int))) = true then _ else _) = _
    simp only [Bool.true_and, decide_eq_true_eq]
    rfl
  rw [e]
  split <;> omega
theorem ev_rI4 (fr : Mem) (cb : List V) (S : RS) (h : S.Ok) : ev tab prim 104 [.ptr 0 0 0] (dM fr cb S) = some (.int .i64 S.i4.1, dM fr cb S.i4.2) := by
  have h1 := ev_rnum ([] :: fr) cb S h 4 (by omega)
  simp only [dM_cons] at h1
  have hr := i32_range (S.num 4).1
  have hw : IntKind.i64.wrap (IntKind.i32.wrap ((S.num 4).1 : Int)) = IntKind.i32.wrap ((S.num 4).1 : Int) := wrap_small (by omega) (by omega)
  rw [ev_fn' tab prim (f := 104) rfl _ _ rfl]
  simp at h1
  simp [h1, RS.i4, hw]

/-- The next text: its length ahead of it. -/
def RS.rtext (S : RS) : Tx × RS := (((S.num 2).2.take (S.num 2).1 S.at_).1.1, ((S.num 2).2.take (S.num 2).1 S.at_).2)
theorem num_at (S : RS) (n : Nat) : (S.num n).2.b = S.b := by
  unfold RS.num RS.take
  split
  · rfl
  · split <;> rfl
theorem RS.rtext_ok {S : RS} (h : S.Ok) : S.rtext.2.Ok := RS.take_ok (S.num_ok h 2) _ _ (by rw [num_at]; exact h.at_)
theorem unbyte_bytes : ∀ r : List UInt8, unbyte (r.map byteV) = some r
  | [] => rfl
  | x :: r => by
    rw [List.map_cons, byteV, unbyte, unbyte_bytes r]
    simp
theorem ev_TextW (fr : Mem) (cb ow : List V) (S : RS) (h : S.Ok) : ev tab prim 68 [.ptr 0 0 0] (dW fr cb ow S) = some (.str S.rtext.1, dW fr cb ow S.rtext.2) := by
  have h0 := ev_AtW ([] :: fr) cb ow S
  have h1 := ev_U2W ([] :: fr) cb ow S h
  have hlt := S.num_lt h 2
  have h2 := ev_takeW ([] :: fr) cb ow (S.num 2).2 (S.num_ok h 2) (S.num 2).1 S.at_ (by omega)
  have hu := unbyte_bytes ((S.num 2).2.take (S.num 2).1 S.at_).1.1
  simp only [dW_cons] at h0 h1 h2
  unfold RS.rtext
  generalize ((S.num 2).2.take (S.num 2).1 S.at_).1.1 = bs at *
  generalize ((S.num 2).2.take (S.num 2).1 S.at_).1.2 = ok at *
  generalize ((S.num 2).2.take (S.num 2).1 S.at_).2 = S2 at *
  generalize (S.num 2).1 = n at *
  generalize (S.num 2).2 = S1 at *
  rw [ev_fn' tab prim (f := 68) rfl _ _ rfl]
  simp [h0, h1, h2, hu]

theorem rtext_own (S : RS) : S.rtext.2.own = S.own := by
  unfold RS.rtext
  rw [take_own, num_own]
theorem ev_rdText (fr : Mem) (cb : List V) (S : RS) (h : S.Ok) : ev tab prim 68 [.ptr 0 0 0] (dM fr cb S) = some (.str S.rtext.1, dM fr cb S.rtext.2) := by
  rw [dM_dW, dM_dW, rtext_own]
  exact ev_TextW fr cb S.own S h

/-! What was met. -/
def RS.met (S : RS) : RS := if S.fl = true ∧ S.e = 0 then { S with e := 2, pl := S.at_ } else S
def RS.fails (S : RS) (e : Int) : RS := if S.met.e = 0 then { S.met with e := e, pl := S.met.at_ } else S.met
theorem RS.met_ok {S : RS} (h : S.Ok) : S.met.Ok := by
  unfold RS.met
  split
  · exact ⟨h.len, h.at_, h.pool, h.at_, .inr ⟨Int.le_refl 2, by simp⟩⟩
  · exact h
theorem RS.fails_ok {S : RS} (h : S.Ok) (e : Int) (he : e = 0 ∨ (2 ≤ e ∧ e ≤ 4) := by omega) : (S.fails e).Ok := by
  have := S.met_ok h
  unfold RS.fails
  split
  · exact ⟨this.len, this.at_, this.pool, this.at_, he⟩
  · exact this

theorem ev_rErr (fr : Mem) (cb : List V) (S : RS) : ev tab prim 90 [.ptr 0 0 0] (dM fr cb S) = some (.tup [.int .i64 (bif S.fl then 2 else 0), .int .i64 (bif S.fl then (S.at_ : Int) else 0)], dM fr cb S) := by
  rw [ev_fn' tab prim (f := 90) rfl _ _ rfl, dM_dC]
  cases S.fl <;> simp [dm0]

set_option maxHeartbeats 4000000 in
theorem ev_fails (fr : Mem) (cb : List V) (S : RS) (e : Int) : ev tab prim 66 [.ptr 2 10 0, .int .i64 e] (dM fr cb S) = some (.tup [], dM fr cb (S.fails e)) := by
  have h1 := ev_rErr ([] :: fr) cb S
  have h2 := ev_At ([] :: fr) cb S
  simp only [dM_cons] at h1 h2
  obtain ⟨b, at_, fl, pool, e0, pl⟩ := S
  simp only [dM_dC] at h1 h2
  rw [ev_fn' tab prim (f := 66) rfl _ _ rfl, dM_dC]
  cases fl
  · by_cases he : e0 = 0
    · subst he
      simp [dm2, h1, h2, dM_dC, RS.fails, RS.met]
    · have he' : (e0 == 0) = false := by simpa using he
      simp [dm2, h1, h2, he, he', dM_dC, RS.fails, RS.met]
  · by_cases he : e0 = 0
    · subst he
      simp [dm2, h1, h2, bne, dM_dC, RS.fails, RS.met]
    · have he' : (e0 == 0) = false := by simpa using he
      simp [dm2, h1, h2, he, he', bne, dM_dC, RS.fails, RS.met]

def RS.okS (S : RS) : Bool × RS := ((S.fails 0).e == 0, S.fails 0)
theorem RS.okS_ok {S : RS} (h : S.Ok) : S.okS.2.Ok := S.fails_ok h 0
theorem ev_ok (fr : Mem) (cb : List V) (S : RS) : ev tab prim 33 [.ptr 2 10 0] (dM fr cb S) = some (.bool S.okS.1, dM fr cb S.okS.2) := by
  have h1 := ev_fails ([] :: fr) cb S 0
  simp only [dM_cons] at h1
  unfold RS.okS
  rw [ev_fn' tab prim (f := 33) rfl _ _ rfl]
  generalize S.fails 0 = T at *
  simp only [dM_dC] at h1 ⊢
  simp [dm2, h1]

def RS.many (S : RS) : Nat × RS := (bif (S.num 2).2.okS.1 then (S.num 2).1 else 0, (S.num 2).2.okS.2)
theorem RS.many_ok {S : RS} (h : S.Ok) : S.many.2.Ok := RS.okS_ok (S.num_ok h 2)
theorem ev_many (fr : Mem) (cb : List V) (S : RS) (h : S.Ok) : ev tab prim 67 [.ptr 2 10 0] (dM fr cb S) = some (.int .i64 S.many.1, dM fr cb S.many.2) := by
  have h1 := ev_rdU2 ([] :: fr) cb S h
  have h2 := ev_ok ([] :: fr) cb (S.num 2).2
  simp only [dM_cons] at h1 h2
  unfold RS.many
  generalize (S.num 2).1 = n at *
  generalize (S.num 2).2 = S1 at *
  rw [ev_fn' tab prim (f := 67) rfl _ _ rfl]
  generalize S1.okS.1 = o at *
  generalize S1.okS.2 = S2 at *
  have hr : dM fr cb S = dC fr cb [.ptr 0 0 0, .list 1 (S.pool.map V.str) true, .int .i64 S.e, .int .i64 S.pl] [.list 1 (S.b.map byteV) false, .int .i64 S.at_, .bool S.fl] := rfl
  rw [hr] at h1 ⊢
  cases o <;> simp [dm2, h1, h2]

def RS.text (S : RS) : Tx × RS :=
  if (S.num 2).2.okS.1 = false then ([], (S.num 2).2.okS.2) else
  if (S.num 2).2.okS.2.pool.length ≤ (S.num 2).1 then ([], (S.num 2).2.okS.2.fails 4) else ((S.num 2).2.okS.2.pool.getD (S.num 2).1 [], (S.num 2).2.okS.2)
theorem RS.text_ok {S : RS} (h : S.Ok) : S.text.2.Ok := by
  have := RS.okS_ok (S.num_ok h 2)
  unfold RS.text
  split
  · exact this
  · split
    · exact RS.fails_ok this 4
    · exact this
set_option maxHeartbeats 4000000 in
theorem ev_rtext (fr : Mem) (cb : List V) (S : RS) (h : S.Ok) : ev tab prim 69 [.ptr 2 10 0] (dM fr cb S) = some (.str S.text.1, dM fr cb S.text.2) := by
  have h1 := ev_rdU2 ([] :: fr) cb S h
  have h2 := ev_ok ([] :: fr) cb (S.num 2).2
  have h3 := ev_fails ([] :: fr) cb (S.num 2).2.okS.2 4
  simp only [dM_cons] at h1 h2 h3
  unfold RS.text
  generalize (S.num 2).1 = n at *
  generalize (S.num 2).2 = S1 at *
  rw [ev_fn' tab prim (f := 69) rfl _ _ rfl]
  generalize S1.okS.1 = o at *
  generalize S1.okS.2 = S2 at *
  have hr : dM fr cb S = dC fr cb [.ptr 0 0 0, .list 1 (S.pool.map V.str) true, .int .i64 S.e, .int .i64 S.pl] [.list 1 (S.b.map byteV) false, .int .i64 S.at_, .bool S.fl] := rfl
  rw [hr] at h1 ⊢
  cases o
  · simp [dm2, h1, h2]
  · have hr2 : dM fr cb S2 = dC fr cb [.ptr 0 0 0, .list 1 (S2.pool.map V.str) true, .int .i64 S2.e, .int .i64 S2.pl] [.list 1 (S2.b.map byteV) false, .int .i64 S2.at_, .bool S2.fl] := rfl
    by_cases hp : S2.pool.length ≤ n
    · have hp' : (S2.pool.length : Int) ≤ (n : Int) := by omega
      rw [hr2] at h2 h3
      simp [dm2, h1, h2, h3, hp, hp']
    · have hp' : ¬ (S2.pool.length : Int) ≤ (n : Int) := by omega
      have hn : n < S2.pool.length := by omega
      have hn' : (n : Int) < (S2.pool.length : Int) := by omega
      have hx : (S2.pool.map V.str)[n]? = some (.str (S2.pool.getD n [])) := by simp [hn, List.getD]
      simp only [hp, if_false, Bool.true_eq_false]
      rw [hr2] at h2 ⊢
      generalize S2.pool.getD n [] = x at hx
      simp [dm2, h1, h2, hp', hn', idxOk, hx]

def RS.flag (S : RS) : Bool × RS := ((S.num 1).1 == 1, if 1 < (S.num 1).1 then (S.num 1).2.fails 3 else (S.num 1).2)
theorem RS.flag_ok {S : RS} (h : S.Ok) : S.flag.2.Ok := by
  have := S.num_ok h 1
  unfold RS.flag
  dsimp only
  split
  · exact RS.fails_ok this 3
  · exact this
theorem ev_rflag (fr : Mem) (cb : List V) (S : RS) (h : S.Ok) : ev tab prim 70 [.ptr 2 10 0] (dM fr cb S) = some (.bool S.flag.1, dM fr cb S.flag.2) := by
  have h1 := ev_rU1 ([] :: fr) cb S h
  have h3 := ev_fails ([] :: fr) cb (S.num 1).2 3
  simp only [dM_cons] at h1 h3
  unfold RS.flag
  generalize (S.num 1).1 = n at *
  generalize (S.num 1).2 = S1 at *
  rw [ev_fn' tab prim (f := 70) rfl _ _ rfl]
  have hr : dM fr cb S = dC fr cb [.ptr 0 0 0, .list 1 (S.pool.map V.str) true, .int .i64 S.e, .int .i64 S.pl] [.list 1 (S.b.map byteV) false, .int .i64 S.at_, .bool S.fl] := rfl
  rw [hr] at h1 ⊢
  have hq : ((n : Int) == 1) = (n == 1) := by rw [Bool.eq_iff_iff]; simp; omega
  by_cases hn : 1 < n
  · have hn' : 1 < (n : Int) := by omega
    simp [dm2, h1, h3, hn, hn', hq]
  · have hn' : ¬ 1 < (n : Int) := by omega
    simp [dm2, h1, hn, hn', hq]

/-! The reader: an instruction. -/
theorem mget_dM2 (fr : Mem) (cb : List V) (S : RS) : mget (dM fr cb S) 2 10 = some (.ptr 0 0 0 :: S.own.tail) := by
  rw [dM_dC, mget_dC2]; rfl
theorem RS.i4_ok {S : RS} (h : S.Ok) : S.i4.2.Ok := S.num_ok h 4

def RS.insA (S : RS) (o : Nat) : Int × RS := bif rowB o 1 then S.i4 else (0, S)
def RS.insB (S : RS) (o : Nat) : Int × RS := bif rowB o 2 then S.i4 else (0, S)
def RS.insT (S : RS) (o k : Nat) : Tx × RS := bif rowB o k then S.text else ([], S)
def RS.insO (S : RS) : RS := if (S.num 1).2.okS.1 = true ∧ inR (S.num 1).1 = false then (S.num 1).2.okS.2.fails 3 else (S.num 1).2.okS.2
/-- The next instruction. -/
def RS.ins (S : RS) : Ins × RS :=
  let o := (S.num 1).1
  let a := S.insO.insA o
  let b := a.2.insB o
  let c := b.2.insT o 3
  let n := c.2.insT o 4
  let d := n.2.insT o 5
  (⟨o, a.1, b.1, c.1, n.1, d.1⟩, d.2)
theorem RS.insO_ok {S : RS} (h : S.Ok) : S.insO.Ok := by
  have := RS.okS_ok (S.num_ok h 1)
  unfold RS.insO
  split
  · exact RS.fails_ok this 3
  · exact this
theorem RS.insA_ok {S : RS} (h : S.Ok) (o : Nat) : (S.insA o).2.Ok := by
  unfold RS.insA; cases rowB o 1
  · exact h
  · exact S.i4_ok h
theorem RS.insB_ok {S : RS} (h : S.Ok) (o : Nat) : (S.insB o).2.Ok := by
  unfold RS.insB; cases rowB o 2
  · exact h
  · exact S.i4_ok h
theorem RS.insT_ok {S : RS} (h : S.Ok) (o k : Nat) : (S.insT o k).2.Ok := by
  unfold RS.insT; cases rowB o k
  · exact h
  · exact S.text_ok h
theorem RS.ins_ok {S : RS} (h : S.Ok) : S.ins.2.Ok := RS.insT_ok (RS.insT_ok (RS.insT_ok (RS.insB_ok (RS.insA_ok (S.insO_ok h) _) _) _ _) _ _) _ _

def iC (o a b : Int) (c n d : Tx) : List V := [.int .i64 o, .int .i64 a, .int .i64 b, .str c, .str n, .str d]

set_option maxHeartbeats 64000000 in
theorem ev_rins (fr : Mem) (cb : List V) (S : RS) (h : S.Ok) : ev tab prim 93 [.ptr 2 10 0] (dM fr cb S) = some (S.ins.1.v, dM fr cb S.ins.2) := by
  have e0 := ev_rU1 ([(2, iC 0 0 0 [] [] [])] :: fr) cb S h
  have h40 := ev61 (S.num 1).1
  rw [shapeOf_eq] at h40
  unfold RS.ins Ins.v
  dsimp only
  have k0 := S.insO_ok h
  have eO : ev tab prim 33 [.ptr 2 10 0] (dM ([(2, iC (S.num 1).1 0 0 [] [] [])] :: fr) cb (S.num 1).2) = some (.bool (S.num 1).2.okS.1, dM ([(2, iC (S.num 1).1 0 0 [] [] [])] :: fr) cb (S.num 1).2.okS.2) := ev_ok _ cb _
  have eF : ev tab prim 66 [.ptr 2 10 0, .int .i64 3] (dM ([(2, iC (S.num 1).1 0 0 [] [] [])] :: fr) cb (S.num 1).2.okS.2) = some (.tup [], dM ([(2, iC (S.num 1).1 0 0 [] [] [])] :: fr) cb ((S.num 1).2.okS.2.fails 3)) := ev_fails _ cb _ _
  have hO : ((S.num 1).2.okS.1 = true ∧ inR (S.num 1).1 = false ∧ S.insO = (S.num 1).2.okS.2.fails 3) ∨ ((S.num 1).2.okS.1 = false ∧ S.insO = (S.num 1).2.okS.2) ∨ ((S.num 1).2.okS.1 = true ∧ inR (S.num 1).1 = true ∧ S.insO = (S.num 1).2.okS.2) := by
    unfold RS.insO
    cases (S.num 1).2.okS.1
    · exact .inr (.inl ⟨rfl, by simp⟩)
    · cases inR (S.num 1).1
      · exact .inl ⟨rfl, rfl, by simp⟩
      · exact .inr (.inr ⟨rfl, rfl, by simp⟩)
  generalize S.insO = SO at *
  generalize (S.num 1).1 = o at *
  generalize (S.num 1).2 = S1 at *
  generalize S1.okS.1 = ok at *
  generalize S1.okS.2 = S2 at *
  have k1 := SO.insA_ok k0 o
  have eA : bif rowB o 1 then ev tab prim 104 [.ptr 0 0 0] (dM ([(2, iC o 0 0 [] [] [])] :: fr) cb SO) = some (.int .i64 (SO.insA o).1, dM ([(2, iC o 0 0 [] [] [])] :: fr) cb (SO.insA o).2) else ((SO.insA o).1 = 0 ∧ SO = (SO.insA o).2) := by
    unfold RS.insA
    cases rowB o 1
    · exact ⟨rfl, rfl⟩
    · exact ev_rI4 _ cb _ k0
  generalize (SO.insA o).1 = a at *
  generalize (SO.insA o).2 = SA at *
  have k2 := SA.insB_ok k1 o
  have eB : bif rowB o 2 then ev tab prim 104 [.ptr 0 0 0] (dM ([(2, iC o a 0 [] [] [])] :: fr) cb SA) = some (.int .i64 (SA.insB o).1, dM ([(2, iC o a 0 [] [] [])] :: fr) cb (SA.insB o).2) else ((SA.insB o).1 = 0 ∧ SA = (SA.insB o).2) := by
    unfold RS.insB
    cases rowB o 2
    · exact ⟨rfl, rfl⟩
    · exact ev_rI4 _ cb _ k1
  generalize (SA.insB o).1 = b at *
  generalize (SA.insB o).2 = SB at *
  have k3 := SB.insT_ok k2 o 3
  have eC : bif rowB o 3 then ev tab prim 69 [.ptr 2 10 0] (dM ([(2, iC o a b [] [] [])] :: fr) cb SB) = some (.str (SB.insT o 3).1, dM ([(2, iC o a b [] [] [])] :: fr) cb (SB.insT o 3).2) else ((SB.insT o 3).1 = [] ∧ SB = (SB.insT o 3).2) := by
    unfold RS.insT
    cases rowB o 3
    · exact ⟨rfl, rfl⟩
    · exact ev_rtext _ cb _ k2
  generalize (SB.insT o 3).1 = c at *
  generalize (SB.insT o 3).2 = SC at *
  have k4 := SC.insT_ok k3 o 4
  have eN : bif rowB o 4 then ev tab prim 69 [.ptr 2 10 0] (dM ([(2, iC o a b c [] [])] :: fr) cb SC) = some (.str (SC.insT o 4).1, dM ([(2, iC o a b c [] [])] :: fr) cb (SC.insT o 4).2) else ((SC.insT o 4).1 = [] ∧ SC = (SC.insT o 4).2) := by
    unfold RS.insT
    cases rowB o 4
    · exact ⟨rfl, rfl⟩
    · exact ev_rtext _ cb _ k3
  generalize (SC.insT o 4).1 = n at *
  generalize (SC.insT o 4).2 = SN at *
  have eD : bif rowB o 5 then ev tab prim 69 [.ptr 2 10 0] (dM ([(2, iC o a b c n [])] :: fr) cb SN) = some (.str (SN.insT o 5).1, dM ([(2, iC o a b c n [])] :: fr) cb (SN.insT o 5).2) else ((SN.insT o 5).1 = [] ∧ SN = (SN.insT o 5).2) := by
    unfold RS.insT
    cases rowB o 5
    · exact ⟨rfl, rfl⟩
    · exact ev_rtext _ cb _ k4
  generalize (SN.insT o 5).1 = d at *
  generalize (SN.insT o 5).2 = SD at *
  simp only [dM_cons, iC] at e0 eO eF eA eB eC eN eD
  rw [ev_fn' tab prim (f := 93) rfl _ _ rfl]
  generalize rowB o 1 = r1 at *
  generalize rowB o 2 = r2 at *
  generalize rowB o 3 = r3 at *
  generalize rowB o 4 = r4 at *
  generalize rowB o 5 = r5 at *
  generalize inR o = ir at *
  rcases hO with ⟨rfl, rfl, rfl⟩ | ⟨rfl, rfl⟩ | ⟨rfl, rfl, rfl⟩
  all_goals
    cases r1 <;> cases r2 <;> cases r3 <;> cases r4 <;> cases r5 <;> simp only [cond_true, cond_false] at eA eB eC eN eD
  all_goals
    (try obtain ⟨rfl, rfl⟩ := eA)
    (try obtain ⟨rfl, rfl⟩ := eB)
    (try obtain ⟨rfl, rfl⟩ := eC)
    (try obtain ⟨rfl, rfl⟩ := eN)
    (try obtain ⟨rfl, rfl⟩ := eD)
    simp [dm2, mget_dM2, *]

/-! The reader: a method. -/
/-- So many of something, as long as nothing is met. -/
def RS.rep {α : Type} (f : RS → α × RS) : Nat → RS → List α × RS
  | 0, S => ([], S)
  | n + 1, S => bif S.okS.1 then ((f S.okS.2).1 :: (RS.rep f n (f S.okS.2).2).1, (RS.rep f n (f S.okS.2).2).2) else ([], S.okS.2)
theorem RS.rep_ok {α : Type} {f : RS → α × RS} (hf : ∀ S : RS, S.Ok → (f S).2.Ok) : ∀ (n : Nat) (S : RS), S.Ok → (RS.rep f n S).2.Ok
  | 0, _, h => h
  | n + 1, S, h => by
    unfold RS.rep
    cases S.okS.1
    · exact S.okS_ok h
    · exact RS.rep_ok hf n _ (hf _ (S.okS_ok h))
theorem RS.rep_len {α : Type} (f : RS → α × RS) : ∀ (n : Nat) (S : RS), (RS.rep f n S).1.length ≤ n
  | 0, _ => by simp [RS.rep]
  | n + 1, S => by
    unfold RS.rep
    cases S.okS.1
    · simp
    · have := RS.rep_len f n (f S.okS.2).2
      simp only [cond_true, List.length_cons]; omega

def mC8 (n d : Tx) (s a : Bool) (st lo : Int) (code hs : V) : List V := [.str n, .str d, .bool s, .bool a, .int .i64 st, .int .i64 lo, code, hs]

set_option maxHeartbeats 16000000 in
theorem rmlLoop0 (fr : Mem) (cb : List V) (nm ds : Tx) (s a : Bool) (st lo : Int) (hs : V) : ∀ (n : Nat) (S : RS) (acc : List Ins), S.Ok → acc.length + n ≤ 1000000 →
    cv tab prim (.loop L71_0) { env := [(0, .ptr 2 10 0), (2, .ptr (fr.length + 3) 2 0), (3, .int .i64 (n : Int))], mem := [(2, mC8 nm ds s a st lo (.list 6 (acc.map Ins.v) true) hs)] :: dM fr cb S } =
      some (.exit 0, { env := [(0, .ptr 2 10 0), (2, .ptr (fr.length + 3) 2 0)], mem := [(2, mC8 nm ds s a st lo (.list 6 ((acc ++ (RS.rep RS.ins n S).1).map Ins.v) true) hs)] :: dM fr cb (RS.rep RS.ins n S).2 }) := by
  intro n
  induction n with
  | zero =>
    intro S acc hS hn
    rw [cv_loop']
    simp [L71_0, RS.rep]
  | succ n ih =>
    intro S acc hS hn
    have h1 : 0 < (n : Int) + 1 := by omega
    have hw : IntKind.i64.wrap (n : Int) = (n : Int) := wrap_small (by omega) (by omega)
    have eO := ev_ok ([(2, mC8 nm ds s a st lo (.list 6 (acc.map Ins.v) true) hs)] :: fr) cb S
    have kO := S.okS_ok hS
    unfold RS.rep
    rw [cv_loop']
    generalize S.okS.1 = ok at *
    generalize S.okS.2 = S1 at *
    simp only [dM_cons, mC8] at eO ⊢
    cases ok
    · simp [L71_0, h1, eO]
    · have e1 := ev_rins ([(2, mC8 nm ds s a st lo (.list 6 (acc.map Ins.v) true) hs)] :: fr) cb S1 kO
      have e2 := ev_rins ([(2, mC8 nm ds s a st lo (.list 6 (acc.map Ins.v) false) hs)] :: fr) cb S1 kO
      have hI := ih S1.ins.2 (acc ++ [S1.ins.1]) (S1.ins_ok kO) (by simp; omega)
      simp only [dM_cons, mC8, Ins.v] at e1 e2 hI
      simp only [cond_true]
      rw [List.append_assoc, List.singleton_append] at hI
      rw [← hI]
      generalize S1.ins.1 = x at *
      generalize S1.ins.2 = S2 at *
      have c1 : (acc.length + 1) * 72 ≤ 140737488355328 := by omega
      have c2 : acc.length + 1 ≤ 140737488355328 := by omega
      simp [L71_0, h1, hw, eO, e1, e2, c1, c2, Ins.v]

/-! The reader: a method's handlers. -/
def RS.hnd (S : RS) : Hnd × RS :=
  let f := S.num 2
  let t := f.2.num 2
  let a := t.2.num 2
  let c := a.2.text
  (⟨f.1, t.1, a.1, c.1⟩, c.2)
theorem RS.hnd_ok {S : RS} (h : S.Ok) : S.hnd.2.Ok := RS.text_ok (RS.num_ok (RS.num_ok (S.num_ok h 2) 2) 2)

set_option maxHeartbeats 400000000 in
set_option maxRecDepth 10000 in
theorem rmlLoop1 (fr : Mem) (cb : List V) (nm ds : Tx) (s a : Bool) (st lo : Int) (code : V) : ∀ (n : Nat) (S : RS) (acc : List Hnd), S.Ok → acc.length + n ≤ 1000000 →
    cv tab prim (.loop L71_1) { env := [(0, .ptr 2 10 0), (2, .ptr (fr.length + 3) 2 0), (4, .int .i64 (n : Int))], mem := [(2, mC8 nm ds s a st lo code (.list 4 (acc.map Hnd.v) true))] :: dM fr cb S } =
      some (.exit 2, { env := [(2, .ptr (fr.length + 3) 2 0)], mem := [(2, mC8 nm ds s a st lo code (.list 4 ((acc ++ (RS.rep RS.hnd n S).1).map Hnd.v) true))] :: dM fr cb (RS.rep RS.hnd n S).2 }) := by
  intro n
  induction n with
  | zero =>
    intro S acc hS hn
    rw [cv_loop']
    simp [L71_1, RS.rep]
  | succ n ih =>
    intro S acc hS hn
    have h1 : 0 < (n : Int) + 1 := by omega
    have hw : IntKind.i64.wrap (n : Int) = (n : Int) := wrap_small (by omega) (by omega)
    have eO := ev_ok ([(2, mC8 nm ds s a st lo code (.list 4 (acc.map Hnd.v) true))] :: fr) cb S
    have kO := S.okS_ok hS
    unfold RS.rep
    rw [cv_loop']
    generalize S.okS.1 = ok at *
    generalize S.okS.2 = S1 at *
    simp only [dM_cons, mC8] at eO ⊢
    cases ok
    · simp [L71_1, h1, eO]
    · have hI := ih S1.hnd.2 (acc ++ [S1.hnd.1]) (S1.hnd_ok kO) (by simp; omega)
      simp only [cond_true]
      rw [List.append_assoc, List.singleton_append] at hI
      unfold RS.hnd at hI ⊢
      dsimp only at hI ⊢
      have k1 := S1.num_ok kO 2
      have k2 := RS.num_ok k1 2
      have k3 := RS.num_ok k2 2
      have e1 := ev_rdU2 ([(2, mC8 nm ds s a st lo code (.list 4 (acc.map Hnd.v) true))] :: fr) cb S1 kO
      have e1' := ev_rdU2 ([(2, mC8 nm ds s a st lo code (.list 4 (acc.map Hnd.v) false))] :: fr) cb S1 kO
      have e2 := ev_rdU2 ([(2, mC8 nm ds s a st lo code (.list 4 (acc.map Hnd.v) true))] :: fr) cb _ k1
      have e2' := ev_rdU2 ([(2, mC8 nm ds s a st lo code (.list 4 (acc.map Hnd.v) false))] :: fr) cb _ k1
      have e3 := ev_rdU2 ([(2, mC8 nm ds s a st lo code (.list 4 (acc.map Hnd.v) true))] :: fr) cb _ k2
      have e3' := ev_rdU2 ([(2, mC8 nm ds s a st lo code (.list 4 (acc.map Hnd.v) false))] :: fr) cb _ k2
      have e4 := ev_rtext ([(2, mC8 nm ds s a st lo code (.list 4 (acc.map Hnd.v) true))] :: fr) cb _ k3
      have e4' := ev_rtext ([(2, mC8 nm ds s a st lo code (.list 4 (acc.map Hnd.v) false))] :: fr) cb _ k3
      simp only [dM_cons, mC8] at e1 e1' e2 e2' e3 e3' e4 e4' hI
      clear k1 k2 k3 ih
      generalize ((((S1.num 2).2.num 2).2.num 2).2.text).1 = x4 at *
      generalize ((((S1.num 2).2.num 2).2.num 2).2.text).2 = S5 at *
      generalize (((S1.num 2).2.num 2).2.num 2).1 = x3 at *
      generalize (((S1.num 2).2.num 2).2.num 2).2 = S4 at *
      generalize ((S1.num 2).2.num 2).1 = x2 at *
      generalize ((S1.num 2).2.num 2).2 = S3 at *
      generalize (S1.num 2).1 = x1 at *
      generalize (S1.num 2).2 = S2 at *
      rw [← hI]
      have c1 : (acc.length + 1) * 40 ≤ 140737488355328 := by omega
      have c2 : acc.length + 1 ≤ 140737488355328 := by omega
      simp (maxSteps := 100000000) [L71_1, dm2, mget_dM2, h1, hw, eO, e1, e1', e2, e2', e3, e3', e4, e4', c1, c2, Hnd.v]

/-! The reader: a method, all of it. -/
/-- The next method. -/
def RS.mth (S : RS) : Mth × RS :=
  let n := S.text
  let d := n.2.text
  let s := d.2.flag
  let a := s.2.flag
  let st := a.2.num 1
  let lo := st.2.num 1
  let k := lo.2.many
  let code := RS.rep RS.ins k.1 k.2
  let q := code.2.many
  let hs := RS.rep RS.hnd q.1 q.2
  (⟨n.1, d.1, s.1, a.1, st.1, lo.1, code.1, hs.1⟩, hs.2)
theorem RS.many_le {S : RS} (h : S.Ok) : S.many.1 ≤ 65535 := by
  have := S.num_lt h 2
  unfold RS.many
  cases (S.num 2).2.okS.1
  · simp
  · simp only [cond_true]; omega
theorem RS.mth_ok {S : RS} (h : S.Ok) : S.mth.2.Ok := by
  unfold RS.mth
  exact RS.rep_ok (fun S h => S.hnd_ok h) _ _ (RS.many_ok (RS.rep_ok (fun S h => S.ins_ok h) _ _ (RS.many_ok (RS.num_ok (RS.num_ok (RS.flag_ok (RS.flag_ok (RS.text_ok (S.text_ok h)))) 1) 1))))

def m0C (n d : Tx) (s a : Bool) (st lo : Int) : List V := mC8 n d s a st lo (.list 6 [] true) (.list 4 [] true)

set_option maxHeartbeats 64000000 in
set_option maxRecDepth 10000 in
theorem ev_rmethod (fr : Mem) (cb : List V) (S : RS) (h : S.Ok) : ev tab prim 71 [.ptr 2 10 0] (dM fr cb S) = some (S.mth.1.v, dM fr cb S.mth.2) := by
  unfold RS.mth Mth.v Mth.cells
  dsimp only
  have k1 := S.text_ok h
  have e1 := ev_rtext ([(2, m0C [] [] false false 0 0)] :: fr) cb S h
  have k2 := RS.text_ok k1
  have e2 := ev_rtext ([(2, m0C [] [] false false 0 0)] :: fr) cb S.text.2 k1
  have k3 := RS.flag_ok k2
  have e3 := ev_rflag ([(2, m0C S.text.1 S.text.2.text.1 false false 0 0)] :: fr) cb _ k2
  generalize S.text.1 = nm at *
  generalize S.text.2 = S1 at *
  generalize S1.text.1 = ds at *
  generalize S1.text.2 = S2 at *
  have k4 := RS.flag_ok k3
  have e4 := ev_rflag ([(2, m0C nm ds false false 0 0)] :: fr) cb _ k3
  generalize S2.flag.1 = s at *
  generalize S2.flag.2 = S3 at *
  have k5 := RS.num_ok k4 1
  have e5 := ev_rU1 ([(2, m0C nm ds s S3.flag.1 0 0)] :: fr) cb _ k4
  generalize S3.flag.1 = a at *
  generalize S3.flag.2 = S4 at *
  have k6 := RS.num_ok k5 1
  have e6 := ev_rU1 ([(2, m0C nm ds s a 0 0)] :: fr) cb _ k5
  generalize (S4.num 1).1 = st at *
  generalize (S4.num 1).2 = S5 at *
  have k7 := RS.many_ok k6
  have b7 := RS.many_le k6
  have e7 := ev_many ([(2, m0C nm ds s a st (S5.num 1).1)] :: fr) cb _ k6
  generalize (S5.num 1).1 = lo at *
  generalize (S5.num 1).2 = S6 at *
  have l0 := rmlLoop0 fr cb nm ds s a st lo (.list 4 [] true) S6.many.1 S6.many.2 [] k7 (by simp; omega)
  have k8 := RS.rep_ok (fun S h => S.ins_ok h) S6.many.1 S6.many.2 k7
  generalize S6.many.1 = kk at *
  generalize S6.many.2 = S7 at *
  have k9 := RS.many_ok k8
  have b9 := RS.many_le k8
  rw [List.nil_append] at l0
  have e8 := ev_many ([(2, mC8 nm ds s a st lo (.list 6 ((RS.rep RS.ins kk S7).1.map Ins.v) true) (.list 4 [] true))] :: fr) cb _ k8
  generalize (RS.rep RS.ins kk S7).1 = code at *
  generalize (RS.rep RS.ins kk S7).2 = S8 at *
  have l1 := rmlLoop1 fr cb nm ds s a st lo (.list 6 (code.map Ins.v) true) S8.many.1 S8.many.2 [] k9 (by simp; omega)
  rw [List.nil_append] at l1
  generalize S8.many.1 = qq at *
  generalize S8.many.2 = S9 at *
  generalize (RS.rep RS.hnd qq S9).1 = hs at *
  generalize (RS.rep RS.hnd qq S9).2 = S10 at *
  simp only [dM_cons, m0C, mC8, List.map_nil] at e1 e2 e3 e4 e5 e6 e7 e8 l0 l1
  rw [ev_fn' tab prim (f := 71) rfl _ _ rfl]
  simp (maxSteps := 10000000) [dm2, mget_dM2, e1, e2, e3, e4, e5, e6, e7, e8, l0, l1]

/-! The reader: the pool, a class's parts. -/
/-- One byte of the magic word. -/
def RS.magic1 (S : RS) (m : Nat) : RS := if (S.num 1).2.okS.1 = true ∧ (S.num 1).1 ≠ m then (S.num 1).2.okS.2.fails 3 else (S.num 1).2.okS.2
theorem RS.magic1_ok {S : RS} (h : S.Ok) (m : Nat) : (S.magic1 m).Ok := by
  have := RS.okS_ok (S.num_ok h 1)
  unfold RS.magic1
  split
  · exact RS.fails_ok this 3
  · exact this
def RS.magic (S : RS) : RS := (((S.magic1 83).magic1 66).magic1 67).magic1 49
theorem RS.magic_ok {S : RS} (h : S.Ok) : S.magic.Ok := RS.magic1_ok (RS.magic1_ok (RS.magic1_ok (S.magic1_ok h 83) 66) 67) 49

def RS.addT (S : RS) : RS := { S.rtext.2 with pool := S.pool ++ [S.rtext.1] }
def RS.poolR : Nat → RS → RS
  | 0, S => S
  | n + 1, S => bif S.okS.1 then RS.poolR n S.okS.2.addT else S.okS.2
theorem take_rest (S : RS) (n f : Nat) : (S.take n f).2.pool = S.pool ∧ (S.take n f).2.e = S.e ∧ (S.take n f).2.pl = S.pl ∧ (S.take n f).2.b = S.b := by
  unfold RS.take
  split
  · exact ⟨rfl, rfl, rfl, rfl⟩
  · split <;> exact ⟨rfl, rfl, rfl, rfl⟩
theorem rtext_rest (S : RS) : S.rtext.2.pool = S.pool ∧ S.rtext.2.e = S.e ∧ S.rtext.2.pl = S.pl ∧ S.rtext.2.b = S.b := by
  obtain ⟨a1, a2, a3, a4⟩ := take_rest (S.num 2).2 (S.num 2).1 S.at_
  obtain ⟨b1, b2, b3, b4⟩ := take_rest S 2 S.at_
  exact ⟨a1.trans b1, a2.trans b2, a3.trans b3, a4.trans b4⟩
theorem RS.addT_ok {S : RS} (h : S.Ok) (hp : S.pool.length + 1 ≤ 1000000) : S.addT.Ok := by
  have := S.rtext_ok h
  exact ⟨this.len, this.at_, by simp [RS.addT]; omega, this.pl, this.ee⟩
theorem fails_rest (S : RS) (e : Int) : (S.fails e).pool = S.pool ∧ (S.fails e).b = S.b := by
  unfold RS.fails RS.met
  split <;> split <;> exact ⟨rfl, rfl⟩
theorem okS_rest (S : RS) : S.okS.2.pool = S.pool ∧ S.okS.2.b = S.b := fails_rest S 0
theorem RS.poolR_ok : ∀ (n : Nat) (S : RS), S.Ok → S.pool.length + n ≤ 1000000 → (RS.poolR n S).Ok
  | 0, _, h, _ => h
  | n + 1, S, h, hn => by
    have hr := (okS_rest S).1
    unfold RS.poolR
    cases S.okS.1
    · exact S.okS_ok h
    · exact RS.poolR_ok n _ (RS.addT_ok (S.okS_ok h) (by rw [hr]; omega)) (by simp [RS.addT, hr]; omega)

def cC7 (n s : Tx) (i a : Bool) (im fs ms : V) : List V := [.str n, .str s, .bool i, .bool a, im, fs, ms]

set_option maxHeartbeats 16000000 in
theorem rclLoop0 (fr : Mem) (cb cc : List V) (S : RS) (h : S.Ok) :
    cv tab prim (.loop L32_0) { env := [(0, .ptr 2 10 0), (2, .ptr (fr.length + 3) 2 0), (9, .int .i64 0)], mem := [(2, cc)] :: dM fr cb S } =
      some (.exit 0, { env := [(0, .ptr 2 10 0), (2, .ptr (fr.length + 3) 2 0)], mem := [(2, cc)] :: dM fr cb S.magic }) := by
  have step : ∀ (T : RS) (i : Nat) (m : Nat), T.Ok → (i = 0 ∧ m = 83) ∨ (i = 1 ∧ m = 66) ∨ (i = 2 ∧ m = 67) ∨ (i = 3 ∧ m = 49) →
      cv tab prim L32_0 { env := [(0, .ptr 2 10 0), (2, .ptr (fr.length + 3) 2 0), (9, .int .i64 i)], mem := [(2, cc)] :: dM fr cb T } =
        some (.normal, { env := [(0, .ptr 2 10 0), (2, .ptr (fr.length + 3) 2 0), (9, .int .i64 (i + 1 : Nat))], mem := [(2, cc)] :: dM fr cb (T.magic1 m) }) := by
    intro T i m hT him
    have e1 := ev_rU1 ([(2, cc)] :: fr) cb T hT
    have e2 := ev_ok ([(2, cc)] :: fr) cb (T.num 1).2
    have e3 := ev_fails ([(2, cc)] :: fr) cb (T.num 1).2.okS.2 3
    have w0 : IntKind.i64.wrap 1 = 1 := rfl
    have w1 : IntKind.i64.wrap 2 = 2 := rfl
    have w2 : IntKind.i64.wrap 3 = 3 := rfl
    have w3 : IntKind.i64.wrap 4 = 4 := rfl
    have q0 : IntKind.i64.wrap 83 = 83 := rfl
    have q1 : IntKind.i64.wrap 66 = 66 := rfl
    have q2 : IntKind.i64.wrap 67 = 67 := rfl
    have q3 : IntKind.i64.wrap 49 = 49 := rfl
    unfold RS.magic1
    generalize (T.num 1).1 = n at *
    generalize (T.num 1).2 = T1 at *
    generalize T1.okS.1 = ok at *
    generalize T1.okS.2 = T2 at *
    simp only [dM_cons] at e1 e2 e3
    rcases him with ⟨rfl, rfl⟩ | ⟨rfl, rfl⟩ | ⟨rfl, rfl⟩ | ⟨rfl, rfl⟩
    · by_cases hn : n = 83
      · subst hn
        cases ok <;> simp [L32_0, dm2, mget_dM2, e1, e2, w0, w1, w2, w3, q0, q1, q2, q3, idxOk, bne]
      · have hb : ((n : Int) == 83) = false := by rw [beq_eq_false_iff_ne]; omega
        cases ok <;> simp [L32_0, dm2, mget_dM2, e1, e2, e3, w0, w1, w2, w3, q0, q1, q2, q3, idxOk, bne, hb, hn]
    · by_cases hn : n = 66
      · subst hn
        cases ok <;> simp [L32_0, dm2, mget_dM2, e1, e2, w0, w1, w2, w3, q0, q1, q2, q3, idxOk, bne]
      · have hb : ((n : Int) == 66) = false := by rw [beq_eq_false_iff_ne]; omega
        cases ok <;> simp [L32_0, dm2, mget_dM2, e1, e2, e3, w0, w1, w2, w3, q0, q1, q2, q3, idxOk, bne, hb, hn]
    · by_cases hn : n = 67
      · subst hn
        cases ok <;> simp [L32_0, dm2, mget_dM2, e1, e2, w0, w1, w2, w3, q0, q1, q2, q3, idxOk, bne]
      · have hb : ((n : Int) == 67) = false := by rw [beq_eq_false_iff_ne]; omega
        cases ok <;> simp [L32_0, dm2, mget_dM2, e1, e2, e3, w0, w1, w2, w3, q0, q1, q2, q3, idxOk, bne, hb, hn]
    · by_cases hn : n = 49
      · subst hn
        cases ok <;> simp [L32_0, dm2, mget_dM2, e1, e2, w0, w1, w2, w3, q0, q1, q2, q3, idxOk, bne]
      · have hb : ((n : Int) == 49) = false := by rw [beq_eq_false_iff_ne]; omega
        cases ok <;> simp [L32_0, dm2, mget_dM2, e1, e2, e3, w0, w1, w2, w3, q0, q1, q2, q3, idxOk, bne, hb, hn]
  have k1 := S.magic1_ok h 83
  have k2 := RS.magic1_ok k1 66
  have k3 := RS.magic1_ok k2 67
  have s0 := step S 0 83 h (by simp)
  have s1 := step _ 1 66 k1 (by simp)
  have s2 := step _ 2 67 k2 (by simp)
  have s3 := step _ 3 49 k3 (by simp)
  unfold RS.magic
  generalize (((S.magic1 83).magic1 66).magic1 67).magic1 49 = T4 at *
  generalize ((S.magic1 83).magic1 66).magic1 67 = T3 at *
  generalize (S.magic1 83).magic1 66 = T2 at *
  generalize S.magic1 83 = T1 at *
  simp only [Int.natCast_zero] at s0
  rw [cv_loop', s0, roundK_n, cv_loop', s1, roundK_n, cv_loop', s2, roundK_n, cv_loop', s3, roundK_n, cv_loop']
  simp [L32_0]

set_option maxHeartbeats 16000000 in
theorem rclLoop1 (fr : Mem) (cb cc : List V) : ∀ (n : Nat) (S : RS), S.Ok → S.pool.length + n ≤ 1000000 →
    cv tab prim (.loop L32_1) { env := [(0, .ptr 2 10 0), (2, .ptr (fr.length + 3) 2 0), (5, .int .i64 (n : Int))], mem := [(2, cc)] :: dM fr cb S } =
      some (.exit 2, { env := [(0, .ptr 2 10 0), (2, .ptr (fr.length + 3) 2 0)], mem := [(2, cc)] :: dM fr cb (RS.poolR n S) }) := by
  intro n
  induction n with
  | zero =>
    intro S hS hn
    rw [cv_loop']
    simp [L32_1, RS.poolR]
  | succ n ih =>
    intro S hS hn
    have h1 : 0 < (n : Int) + 1 := by omega
    have hw : IntKind.i64.wrap (n : Int) = (n : Int) := wrap_small (by omega) (by omega)
    have eO := ev_ok ([(2, cc)] :: fr) cb S
    have kO := S.okS_ok hS
    have hp := congrArg List.length (okS_rest S).1
    unfold RS.poolR
    rw [cv_loop']
    generalize S.okS.1 = ok at *
    generalize S.okS.2 = S1 at *
    simp only [dM_cons] at eO
    cases ok
    · simp [L32_1, h1, eO]
    · have hI := ih S1.addT (RS.addT_ok kO (by omega)) (by simp [RS.addT]; omega)
      have e1 := ev_TextW ([(2, cc)] :: fr) cb [.ptr 0 0 0, .list 1 (S1.pool.map V.str) true, .int .i64 S1.e, .int .i64 S1.pl] S1 kO
      have e2 := ev_TextW ([(2, cc)] :: fr) cb [.ptr 0 0 0, .list 1 (S1.pool.map V.str) false, .int .i64 S1.e, .int .i64 S1.pl] S1 kO
      obtain ⟨r1, r2, r3, r4⟩ := rtext_rest S1
      have hM : dM fr cb S1.addT = dC fr cb [.ptr 0 0 0, .list 1 (S1.pool.map V.str ++ [.str S1.rtext.1]) true, .int .i64 S1.e, .int .i64 S1.pl] [.list 1 (S1.rtext.2.b.map byteV) false, .int .i64 S1.rtext.2.at_, .bool S1.rtext.2.fl] := by
        rw [dM_dC, RS.addT]
        simp [r2, r3]
      simp only [cond_true]
      rw [← hI, hM]
      simp only [dW_cons] at e1 e2
      simp only [dW] at e1 e2
      generalize S1.rtext.1 = t at *
      generalize S1.rtext.2 = S2 at *
      have c1 : (S1.pool.length + 1) * 16 ≤ 140737488355328 := by omega
      have c2 : S1.pool.length + 1 ≤ 140737488355328 := by omega
      have eO' : ev tab prim 33 [.ptr 2 10 0] ([(2, cc)] :: dM fr cb S) = some (.bool true, [(2, cc)] :: dC fr cb [.ptr 0 0 0, .list 1 (S1.pool.map V.str) true, .int .i64 S1.e, .int .i64 S1.pl] [.list 1 (S1.b.map byteV) false, .int .i64 S1.at_, .bool S1.fl]) := by
        rw [eO]; rfl
      simp [L32_1, dm2, h1, hw, eO', e1, e2, c1, c2]

/-! The reader: a class. -/
def RS.fld (S : RS) : Fld × RS := (⟨S.text.1, S.text.2.text.1, S.text.2.text.2.flag.1⟩, S.text.2.text.2.flag.2)
theorem RS.fld_ok {S : RS} (h : S.Ok) : S.fld.2.Ok := RS.flag_ok (RS.text_ok (S.text_ok h))

set_option maxHeartbeats 16000000 in
theorem rclLoop2 (fr : Mem) (cb : List V) (nm su : Tx) (i a : Bool) (fs ms : V) : ∀ (n : Nat) (S : RS) (acc : List Tx), S.Ok → acc.length + n ≤ 1000000 →
    cv tab prim (.loop L32_2) { env := [(0, .ptr 2 10 0), (2, .ptr (fr.length + 3) 2 0), (6, .int .i64 (n : Int))], mem := [(2, cC7 nm su i a (.list 1 (acc.map V.str) true) fs ms)] :: dM fr cb S } =
      some (.exit 4, { env := [(0, .ptr 2 10 0), (2, .ptr (fr.length + 3) 2 0)], mem := [(2, cC7 nm su i a (.list 1 ((acc ++ (RS.rep RS.text n S).1).map V.str) true) fs ms)] :: dM fr cb (RS.rep RS.text n S).2 }) := by
  intro n
  induction n with
  | zero =>
    intro S acc hS hn
    rw [cv_loop']
    simp [L32_2, RS.rep]
  | succ n ih =>
    intro S acc hS hn
    have h1 : 0 < (n : Int) + 1 := by omega
    have hw : IntKind.i64.wrap (n : Int) = (n : Int) := wrap_small (by omega) (by omega)
    have eO := ev_ok ([(2, cC7 nm su i a (.list 1 (acc.map V.str) true) fs ms)] :: fr) cb S
    have kO := S.okS_ok hS
    unfold RS.rep
    rw [cv_loop']
    generalize S.okS.1 = ok at *
    generalize S.okS.2 = S1 at *
    simp only [dM_cons, cC7] at eO ⊢
    cases ok
    · simp [L32_2, h1, eO]
    · have e1 := ev_rtext ([(2, cC7 nm su i a (.list 1 (acc.map V.str) true) fs ms)] :: fr) cb S1 kO
      have e2 := ev_rtext ([(2, cC7 nm su i a (.list 1 (acc.map V.str) false) fs ms)] :: fr) cb S1 kO
      have hI := ih S1.text.2 (acc ++ [S1.text.1]) (S1.text_ok kO) (by simp; omega)
      simp only [dM_cons, cC7] at e1 e2 hI
      simp only [cond_true]
      rw [List.append_assoc, List.singleton_append] at hI
      rw [← hI]
      generalize S1.text.1 = x at *
      generalize S1.text.2 = S2 at *
      have c1 : (acc.length + 1) * 16 ≤ 140737488355328 := by omega
      have c2 : acc.length + 1 ≤ 140737488355328 := by omega
      simp [L32_2, h1, hw, eO, e1, e2, c1, c2]

set_option maxHeartbeats 16000000 in
theorem rclLoop3 (fr : Mem) (cb : List V) (nm su : Tx) (i a : Bool) (im ms : V) : ∀ (n : Nat) (S : RS) (acc : List Fld), S.Ok → acc.length + n ≤ 1000000 →
    cv tab prim (.loop L32_3) { env := [(0, .ptr 2 10 0), (2, .ptr (fr.length + 3) 2 0), (7, .int .i64 (n : Int))], mem := [(2, cC7 nm su i a im (.list 3 (acc.map Fld.v) true) ms)] :: dM fr cb S } =
      some (.exit 6, { env := [(0, .ptr 2 10 0), (2, .ptr (fr.length + 3) 2 0)], mem := [(2, cC7 nm su i a im (.list 3 ((acc ++ (RS.rep RS.fld n S).1).map Fld.v) true) ms)] :: dM fr cb (RS.rep RS.fld n S).2 }) := by
  intro n
  induction n with
  | zero =>
    intro S acc hS hn
    rw [cv_loop']
    simp [L32_3, RS.rep]
  | succ n ih =>
    intro S acc hS hn
    have h1 : 0 < (n : Int) + 1 := by omega
    have hw : IntKind.i64.wrap (n : Int) = (n : Int) := wrap_small (by omega) (by omega)
    have eO := ev_ok ([(2, cC7 nm su i a im (.list 3 (acc.map Fld.v) true) ms)] :: fr) cb S
    have kO := S.okS_ok hS
    unfold RS.rep
    rw [cv_loop']
    generalize S.okS.1 = ok at *
    generalize S.okS.2 = S1 at *
    simp only [dM_cons, cC7] at eO ⊢
    cases ok
    · simp [L32_3, h1, eO]
    · have hI := ih S1.fld.2 (acc ++ [S1.fld.1]) (S1.fld_ok kO) (by simp; omega)
      simp only [cond_true]
      rw [List.append_assoc, List.singleton_append] at hI
      unfold RS.fld at hI ⊢
      dsimp only at hI ⊢
      have k1 := S1.text_ok kO
      have k2 := RS.text_ok k1
      have e1 := ev_rtext ([(2, cC7 nm su i a im (.list 3 (acc.map Fld.v) true) ms)] :: fr) cb S1 kO
      have e1' := ev_rtext ([(2, cC7 nm su i a im (.list 3 (acc.map Fld.v) false) ms)] :: fr) cb S1 kO
      have e2 := ev_rtext ([(2, cC7 nm su i a im (.list 3 (acc.map Fld.v) true) ms)] :: fr) cb _ k1
      have e2' := ev_rtext ([(2, cC7 nm su i a im (.list 3 (acc.map Fld.v) false) ms)] :: fr) cb _ k1
      have e3 := ev_rflag ([(2, cC7 nm su i a im (.list 3 (acc.map Fld.v) true) ms)] :: fr) cb _ k2
      have e3' := ev_rflag ([(2, cC7 nm su i a im (.list 3 (acc.map Fld.v) false) ms)] :: fr) cb _ k2
      simp only [dM_cons, cC7] at e1 e1' e2 e2' e3 e3' hI
      clear k1 k2 ih
      generalize S1.text.2.text.2.flag.1 = x3 at *
      generalize S1.text.2.text.2.flag.2 = S4 at *
      generalize S1.text.2.text.1 = x2 at *
      generalize S1.text.2.text.2 = S3 at *
      generalize S1.text.1 = x1 at *
      generalize S1.text.2 = S2 at *
      rw [← hI]
      have c1 : (acc.length + 1) * 40 ≤ 140737488355328 := by omega
      have c2 : acc.length + 1 ≤ 140737488355328 := by omega
      simp (maxSteps := 10000000) [L32_3, dm2, mget_dM2, h1, hw, eO, e1, e1', e2, e2', e3, e3', c1, c2, Fld.v]

set_option maxHeartbeats 16000000 in
theorem rclLoop4 (fr : Mem) (cb : List V) (nm su : Tx) (i a : Bool) (im fs : V) : ∀ (n : Nat) (S : RS) (acc : List Mth), S.Ok → acc.length + n ≤ 1000000 →
    cv tab prim (.loop L32_4) { env := [(0, .ptr 2 10 0), (2, .ptr (fr.length + 3) 2 0), (8, .int .i64 (n : Int))], mem := [(2, cC7 nm su i a im fs (.list 8 (acc.map Mth.v) true))] :: dM fr cb S } =
      some (.exit 8, { env := [(2, .ptr (fr.length + 3) 2 0)], mem := [(2, cC7 nm su i a im fs (.list 8 ((acc ++ (RS.rep RS.mth n S).1).map Mth.v) true))] :: dM fr cb (RS.rep RS.mth n S).2 }) := by
  intro n
  induction n with
  | zero =>
    intro S acc hS hn
    rw [cv_loop']
    simp [L32_4, RS.rep]
  | succ n ih =>
    intro S acc hS hn
    have h1 : 0 < (n : Int) + 1 := by omega
    have hw : IntKind.i64.wrap (n : Int) = (n : Int) := wrap_small (by omega) (by omega)
    have eO := ev_ok ([(2, cC7 nm su i a im fs (.list 8 (acc.map Mth.v) true))] :: fr) cb S
    have kO := S.okS_ok hS
    unfold RS.rep
    rw [cv_loop']
    generalize S.okS.1 = ok at *
    generalize S.okS.2 = S1 at *
    simp only [dM_cons, cC7] at eO ⊢
    cases ok
    · simp [L32_4, h1, eO]
    · have e1 := ev_rmethod ([(2, cC7 nm su i a im fs (.list 8 (acc.map Mth.v) true))] :: fr) cb S1 kO
      have e2 := ev_rmethod ([(2, cC7 nm su i a im fs (.list 8 (acc.map Mth.v) false))] :: fr) cb S1 kO
      have hI := ih S1.mth.2 (acc ++ [S1.mth.1]) (S1.mth_ok kO) (by simp; omega)
      simp only [dM_cons, cC7, Mth.v, Mth.cells] at e1 e2 hI
      simp only [cond_true]
      rw [List.append_assoc, List.singleton_append] at hI
      rw [← hI]
      generalize S1.mth.1 = x at *
      generalize S1.mth.2 = S2 at *
      have c1 : (acc.length + 1) * 104 ≤ 140737488355328 := by omega
      have c2 : acc.length + 1 ≤ 140737488355328 := by omega
      simp [L32_4, h1, hw, eO, e1, e2, c1, c2, Mth.v, Mth.cells]

/-- The class. -/
def RS.cls (S : RS) : Cls × RS :=
  let p := S.magic.many
  let P := RS.poolR p.1 p.2
  let n := P.text
  let s := n.2.text
  let i := s.2.flag
  let a := i.2.flag
  let q1 := a.2.many
  let im := RS.rep RS.text q1.1 q1.2
  let q2 := im.2.many
  let fs := RS.rep RS.fld q2.1 q2.2
  let q3 := fs.2.many
  let ms := RS.rep RS.mth q3.1 q3.2
  (⟨n.1, s.1, i.1, a.1, im.1, fs.1, ms.1⟩, ms.2)

/-! The reader: a class, all of it. -/
theorem magic1_pool (S : RS) (m : Nat) : (S.magic1 m).pool = S.pool := by
  have a := (take_rest S 1 S.at_).1
  have b := (okS_rest (S.num 1).2).1
  unfold RS.magic1
  split
  · exact (fails_rest _ 3).1.trans (b.trans a)
  · exact b.trans a
theorem magic_pool (S : RS) : S.magic.pool = S.pool := by
  unfold RS.magic
  rw [magic1_pool, magic1_pool, magic1_pool, magic1_pool]
theorem many_pool (S : RS) : S.many.2.pool = S.pool := (okS_rest (S.num 2).2).1.trans (take_rest S 2 S.at_).1

theorem RS.cls_ok {S : RS} (h : S.Ok) (hp : S.pool.length ≤ 100000) : S.cls.2.Ok := by
  have k1 := RS.many_ok (S.magic_ok h)
  have b1 := RS.many_le (S.magic_ok h)
  have k2 := RS.poolR_ok S.magic.many.1 S.magic.many.2 k1 (by rw [many_pool, magic_pool]; omega)
  unfold RS.cls
  dsimp only
  generalize RS.poolR S.magic.many.1 S.magic.many.2 = S2 at *
  have k3 := RS.text_ok k2
  generalize S2.text.2 = S3 at *
  have k4 := RS.text_ok k3
  generalize S3.text.2 = S4 at *
  have k5 := RS.flag_ok k4
  generalize S4.flag.2 = S5 at *
  have k6 := RS.flag_ok k5
  generalize S5.flag.2 = S6 at *
  have k8 := RS.rep_ok (fun S h => S.text_ok h) S6.many.1 S6.many.2 (RS.many_ok k6)
  generalize (RS.rep RS.text S6.many.1 S6.many.2).2 = S8 at *
  have k10 := RS.rep_ok (fun S h => S.fld_ok h) S8.many.1 S8.many.2 (RS.many_ok k8)
  generalize (RS.rep RS.fld S8.many.1 S8.many.2).2 = S10 at *
  exact RS.rep_ok (fun S h => S.mth_ok h) S10.many.1 S10.many.2 (RS.many_ok k10)

set_option maxHeartbeats 64000000 in
set_option maxRecDepth 10000 in
theorem ev_rclass (fr : Mem) (cb : List V) (S : RS) (h : S.Ok) (hp : S.pool.length ≤ 100000) : ev tab prim 32 [.ptr 2 10 0] (dM fr cb S) = some (S.cls.1.v, dM fr cb S.cls.2) := by
  unfold RS.cls Cls.v Cls.cells
  dsimp only
  have l0 := rclLoop0 fr cb (cC7 [] [] false false (.list 1 [] true) (.list 3 [] true) (.list 8 [] true)) S h
  have k0 := S.magic_ok h
  have hp0 := magic_pool S
  generalize S.magic = S0 at *
  have b1 := RS.many_le k0
  have k1 := RS.many_ok k0
  have hp1 := many_pool S0
  have e1 := ev_many ([(2, cC7 [] [] false false (.list 1 [] true) (.list 3 [] true) (.list 8 [] true))] :: fr) cb S0 k0
  generalize S0.many.1 = p at *
  generalize S0.many.2 = S1 at *
  have hpl : S1.pool.length + p ≤ 1000000 := by rw [hp1, hp0]; omega
  have l1 := rclLoop1 fr cb (cC7 [] [] false false (.list 1 [] true) (.list 3 [] true) (.list 8 [] true)) p S1 k1 hpl
  have k2 := RS.poolR_ok p S1 k1 hpl
  generalize RS.poolR p S1 = S2 at *
  have k3 := RS.text_ok k2
  have e3 := ev_rtext ([(2, cC7 [] [] false false (.list 1 [] true) (.list 3 [] true) (.list 8 [] true))] :: fr) cb S2 k2
  generalize S2.text.1 = nm at *
  generalize S2.text.2 = S3 at *
  have k4 := RS.text_ok k3
  have e4 := ev_rtext ([(2, cC7 [] [] false false (.list 1 [] true) (.list 3 [] true) (.list 8 [] true))] :: fr) cb S3 k3
  generalize S3.text.1 = su at *
  generalize S3.text.2 = S4 at *
  have k5 := RS.flag_ok k4
  have e5 := ev_rflag ([(2, cC7 nm su false false (.list 1 [] true) (.list 3 [] true) (.list 8 [] true))] :: fr) cb S4 k4
  generalize S4.flag.1 = i at *
  generalize S4.flag.2 = S5 at *
  have k6 := RS.flag_ok k5
  have e6 := ev_rflag ([(2, cC7 nm su false false (.list 1 [] true) (.list 3 [] true) (.list 8 [] true))] :: fr) cb S5 k5
  generalize S5.flag.1 = a at *
  generalize S5.flag.2 = S6 at *
  have b7 := RS.many_le k6
  have k7 := RS.many_ok k6
  have e7 := ev_many ([(2, cC7 nm su i a (.list 1 [] true) (.list 3 [] true) (.list 8 [] true))] :: fr) cb S6 k6
  have l2 := rclLoop2 fr cb nm su i a (.list 3 [] true) (.list 8 [] true) S6.many.1 S6.many.2 [] k7 (by simp; omega)
  have k8 := RS.rep_ok (fun S h => S.text_ok h) S6.many.1 S6.many.2 k7
  rw [List.nil_append] at l2
  generalize S6.many.1 = q1 at *
  generalize S6.many.2 = S7 at *
  generalize (RS.rep RS.text q1 S7).1 = im at *
  generalize (RS.rep RS.text q1 S7).2 = S8 at *
  have b9 := RS.many_le k8
  have k9 := RS.many_ok k8
  have e9 := ev_many ([(2, cC7 nm su i a (.list 1 (im.map V.str) true) (.list 3 [] true) (.list 8 [] true))] :: fr) cb S8 k8
  have l3 := rclLoop3 fr cb nm su i a (.list 1 (im.map V.str) true) (.list 8 [] true) S8.many.1 S8.many.2 [] k9 (by simp; omega)
  have k10 := RS.rep_ok (fun S h => S.fld_ok h) S8.many.1 S8.many.2 k9
  rw [List.nil_append] at l3
  generalize S8.many.1 = q2 at *
  generalize S8.many.2 = S9 at *
  generalize (RS.rep RS.fld q2 S9).1 = fs at *
  generalize (RS.rep RS.fld q2 S9).2 = S10 at *
  have b11 := RS.many_le k10
  have k11 := RS.many_ok k10
  have e11 := ev_many ([(2, cC7 nm su i a (.list 1 (im.map V.str) true) (.list 3 (fs.map Fld.v) true) (.list 8 [] true))] :: fr) cb S10 k10
  have l4 := rclLoop4 fr cb nm su i a (.list 1 (im.map V.str) true) (.list 3 (fs.map Fld.v) true) S10.many.1 S10.many.2 [] k11 (by simp; omega)
  rw [List.nil_append] at l4
  generalize S10.many.1 = q3 at *
  generalize S10.many.2 = S11 at *
  generalize (RS.rep RS.mth q3 S11).1 = ms at *
  generalize (RS.rep RS.mth q3 S11).2 = S12 at *
  simp only [dM_cons, cC7, List.map_nil] at l0 l1 l2 l3 l4 e1 e3 e4 e5 e6 e7 e9 e11
  rw [ev_fn' tab prim (f := 32) rfl _ _ rfl]
  simp (maxSteps := 10000000) [dm2, mget_dM2, l0, l1, l2, l3, l4, e1, e3, e4, e5, e6, e7, e9, e11]

/-! Bytes as a class. -/
theorem byte_eq (a b : UInt8) : ((a.toNat : Int) == (b.toNat : Int)) = (a == b) := by
  rw [Bool.eq_iff_iff]
  simp only [beq_iff_eq, Int.natCast_inj]
  exact ⟨fun h => UInt8.toNat_inj.1 h, fun h => by rw [h]⟩
theorem eqF_beq : ∀ (l k : List UInt8), eqF (fun x y => x == y) l k = (l == k)
  | [], [] => rfl
  | [], _ :: _ => rfl
  | _ :: _, [] => rfl
  | x :: r, y :: s => by
    rw [eqF, eqF_beq r s]; rfl

theorem ev_eqB (l k : List UInt8) (hl : l.length ≤ maxLen) (o1 o2 : Bool) : ev tab prim 34 [.list 1 (l.map byteV) o1, .list 1 (k.map byteV) o2] [[], []] = some (.bool (l == k), [[], []]) := by
  rw [ev_fn' tab prim (f := 34) rfl _ _ rfl, ← eqF_beq]
  by_cases h : l.length = k.length
  · have e : ((l.length : Int) != (k.length : Int)) = false := by simp [h]
    have hL := loop_eq (fun x y => x == y) l k h (b := L34_0) (fun i => { env := [(0, .list 1 (l.map byteV) false), (1, .list 1 (k.map byteV) false), (12, .int .i64 l.length), (13, .int .i64 i)], mem := [[], [], []] }) (.exit 0, { env := [], mem := [[], [], []] }) (.ret, { env := [(4, .bool false)], mem := [[], [], []] })
      (fun i hi hi' hh => by
        have a1 : (i : Int) < (l.length : Int) := by omega
        have a2 : (i : Int) < (k.length : Int) := by omega
        have hw := wrap_succ hi hl
        have hx : (l.map byteV)[i]? = some (byteV l[i]) := by simp [hi]
        have hy : (k.map byteV)[i]? = some (byteV k[i]) := by simp [hi']
        replace hh : (l[i] == k[i]) = true := hh
        have hq := byte_eq l[i] k[i]
        rw [hh] at hq
        simp [L34_0, a1, a2, hw, idxOk, hx, hy, byteV, hq, bne])
      (fun i hi hi' hh => by
        have a1 : (i : Int) < (l.length : Int) := by omega
        have a2 : (i : Int) < (k.length : Int) := by omega
        have hx : (l.map byteV)[i]? = some (byteV l[i]) := by simp [hi]
        have hy : (k.map byteV)[i]? = some (byteV k[i]) := by simp [hi']
        replace hh : (l[i] == k[i]) = false := hh
        have hq := byte_eq l[i] k[i]
        rw [hh] at hq
        simp [L34_0, a1, a2, idxOk, hx, hy, byteV, hq, bne])
      (by simp [L34_0]) (by simp) (by simp)
    simp only [Int.natCast_zero] at hL
    cases hb : eqF (fun x y => x == y) l k
    · rw [hb] at hL; simp only [Bool.false_eq_true, if_false] at hL; simp [e, hL]
    · rw [hb] at hL; simp only [if_true] at hL; simp [e, hL]
  · have e : ((l.length : Int) != (k.length : Int)) = true := by simp; omega
    have hb : eqF (fun x y => x == y) l k = false := by
      cases hq : eqF (fun x y => x == y) l k
      · rfl
      · exact absurd (eqF_len hq) h
    simp [e, hb]

def zeroC : Cls := ⟨[], [], false, false, [], [], []⟩
def decR (b : List UInt8) : RS := ⟨b, 0, false, [], 0, 0⟩
/-- The class whose bytes they are; why there is none, and where. -/
def decV (b : List UInt8) : Cls × Int × Int :=
  if 262144 < b.length then (zeroC, 5, 0) else
  if (decR b).cls.2.okS.1 = false then (zeroC, (decR b).cls.2.okS.2.e, (decR b).cls.2.okS.2.pl) else
  if (decR b).cls.1.err ≠ 0 then (zeroC, (decR b).cls.1.err, 0) else
  if (decR b).cls.1.bytes ≠ b then (zeroC, 7, (decR b).cls.2.okS.2.at_) else ((decR b).cls.1, 0, 0)

theorem ev_NewReader (b : List UInt8) (o : Bool) (b0 : Boxes) (hb : b.length ≤ 140737488355328) : ev tab prim 31 [.list 1 (b.map byteV) o] [b0, [], []] = some (.ptr 0 0 0, [b0, [], (decR b).arena]) := by
  have hc : ev tab prim 64 [.list 1 (b.map byteV) false] [[], []] = some (.list 1 (b.map byteV) true, [[], []]) := by
    rw [ev_prim tab prim rfl]
    show (if (b.map byteV).length ≤ 140737488355328 then _ else _) = _
    rw [if_pos (by rw [List.length_map]; exact hb)]
  rw [ev_fn' tab prim (f := 31) rfl _ _ rfl]
  simp [hc, decR, RS.arena]

theorem findKDec : findL S10_0 0 = some (.seq .skip K10_0) := by rfl
def decE (e at_ : Int) : Env := [(2, .ptr 2 2 0), (3, .int .i64 e), (4, .int .i64 at_)]
theorem decBad (cb : List V) (hc : cb.length = 7) (ow : List V) (ar : Boxes) (e at_ : Int) :
    cj tab prim S10_0 (some (.goto 0, { env := decE e at_, mem := [[(2, cb), (10, ow)], [], ar] })) = some (.ret, { env := decE e at_, mem := [[(2, zeroC.cells), (10, ow)], [], ar] }) := by
  match cb, hc with
  | [x0, x1, x2, x3, x4, x5, x6], _ =>
    rw [cj_g tab prim S10_0 _ 0 findKDec, cv_seq', cv_skip, seqK_n]
    simp [K10_0, decE, zeroC, Cls.cells]

def cb0 : List V := [.str [], .str [], .bool false, .bool false, .list 1 [] true, .list 3 [] true, .list 8 [] true]

theorem bytes_len (c : Cls) (ho : c.Ok) (hs : c.Small) : c.bytes.length ≤ 40000000 := by
  have hle : ∀ x ∈ c.pool, x.length ≤ 65535 := addL_le 65535 c.texts [] (texts_le c hs) (by simp)
  have h1 := flatMap_len tB 65537 c.pool fun a ha => tB_len a (hle a ha)
  have h2 := flatMap_len (pl c.pool) 2 c.im fun a _ => by rw [pl_len]; omega
  have h3 := flatMap_len (fB c.pool) 5 c.fs fun a _ => by rw [fB_len]; omega
  have h4 := flatMap_len (mB c.pool) 4000 c.ms fun a ha => mB_len c.pool a (ho.mss a ha)
  have := ho.pool
  have := ho.im
  have := ho.fs
  have := ho.ms
  unfold Cls.bytes Cls.bytesL
  simp only [List.length_append, beN_len, pl_len, List.length_cons, List.length_nil]
  omega

def dSt (b : List UInt8) : St := { env := [(0, .list 1 (b.map byteV) false), (2, .ptr 2 2 0), (4, .int .i64 0)], mem := [[(2, cb0)], [], []] }

set_option maxHeartbeats 64000000 in
theorem decScope (b : List UInt8) (hb : b.length ≤ 140737488355328) (hw : b.length ≤ 262144 → (decR b).cls.2.okS.1 = true → (decR b).cls.1.Wf ∧ (decR b).cls.1.Small) :
    ∃ (x : AExit) (cb ow : List V) (ar : Boxes), cb.length = 7 ∧ cv tab prim S10_0 (dSt b) = some (x, { env := decE (decV b).2.1 (decV b).2.2, mem := [[(2, cb), (10, ow)], [], ar] }) ∧ (x = .goto 0 ∧ (decV b).1 = zeroC ∨ x = .ret ∧ cb = (decV b).1.cells) := by
  have e1 := ev_NewReader b false [(2, cb0)] hb
  by_cases hl : 262144 < b.length
  · have hl' : 262144 < (b.length : Int) := by omega
    refine ⟨_, cb0, (decR b).own, (decR b).arena, rfl, ?_, .inl ⟨rfl, by unfold decV; rw [if_pos hl]⟩⟩
    unfold decV
    rw [if_pos hl]
    unfold S10_0 dSt
    simp only [decR, RS.arena, RS.own, cb0] at e1 ⊢
    simp [e1, hl', decE]
  · have hl' : ¬ 262144 < (b.length : Int) := by omega
    have hbl : b.length ≤ 262144 := by omega
    have hw := hw hbl
    have k0 : (decR b).Ok := ⟨by show b.length ≤ _; omega, Nat.zero_le _, by simp [decR], Nat.zero_le _, .inl rfl⟩
    have k1 := RS.cls_ok k0 (by simp [decR])
    have e2 := ev_rclass [] cb0 (decR b) k0 (by simp [decR])
    have e3 := ev_ok [] (decR b).cls.1.cells (decR b).cls.2
    have e4 := ev_At [] (decR b).cls.1.cells (decR b).cls.2.okS.2
    unfold decV
    rw [if_neg hl]
    simp only [dM, List.nil_append] at e2 e3 e4
    have hown : (decR b).own = [.ptr 0 0 0, .list 1 [] true, .int .i64 0, .int .i64 0] := rfl
    rw [hown] at e2
    have hs0 : cv tab prim S10_0 (dSt b) = cv tab prim S10_0 (dSt b) := rfl
    generalize (decR b).arena = ar0 at *
    generalize (decR b).cls.1 = K at *
    generalize (decR b).cls.2 = S1 at *
    generalize S1.okS.1 = ok at *
    generalize S1.okS.2 = S2 at *
    have o1 : S1.own = [.ptr 0 0 0, .list 1 (S1.pool.map V.str) true, .int .i64 S1.e, .int .i64 S1.pl] := rfl
    have o2 : S2.own = [.ptr 0 0 0, .list 1 (S2.pool.map V.str) true, .int .i64 S2.e, .int .i64 S2.pl] := rfl
    rw [o1] at e2 e3
    rw [o2] at e3 e4
    generalize S1.arena = ar1 at *
    generalize S2.arena = ar2 at *
    cases ok
    · refine ⟨_, K.cells, S2.own, ar2, rfl, ?_, .inl ⟨rfl, by simp⟩⟩
      unfold S10_0 dSt
      simp only [Cls.v, Cls.cells, cb0, o2] at *
      simp [e1, hl', e2, e3, decE]
    · obtain ⟨hK, hS⟩ := hw rfl
      by_cases he : K.err = 0
      · obtain ⟨M, e5⟩ := ev_Encode_ok K hK hS he
        have hbl2 := bytes_len K (K.ok_of he) hS
        have e6 := ev_eqB K.bytes b (by unfold maxLen; omega) false false
        by_cases hq : K.bytes = b
        · refine ⟨_, K.cells, S2.own, ar2, rfl, ?_, .inr ⟨rfl, by simp [he, hq]⟩⟩
          have hq' : (K.bytes == b) = true := by simp [hq]
          rw [hq'] at e6
          simp only [he, hq, if_false, ne_eq, not_true_eq_false, Bool.true_eq_false]
          unfold S10_0 dSt
          simp only [Cls.v, Cls.cells, cb0, o2, hq] at *
          simp [e1, hl', e2, e3, e5, e6, decE]
        · refine ⟨_, K.cells, S2.own, ar2, rfl, ?_, .inl ⟨rfl, by simp [he, hq]⟩⟩
          have hq' : (K.bytes == b) = false := by simpa using hq
          rw [hq'] at e6
          simp only [he, hq, if_false, if_true, ne_eq, not_true_eq_false, not_false_eq_true, Bool.true_eq_false]
          generalize K.bytes.map byteV = kb at *
          unfold S10_0 dSt
          simp only [Cls.v, Cls.cells, cb0, o2] at *
          simp [e1, hl', e2, e3, e4, e5, e6, decE]
      · have e5 := ev_Encode_bad K hK hS he
        have he' : (K.err == 0) = false := by simpa using he
        refine ⟨_, K.cells, S2.own, ar2, rfl, ?_, .inl ⟨rfl, by simp [he]⟩⟩
        unfold S10_0 dSt
        simp only [he, if_true, ne_eq, not_false_eq_true, Bool.true_eq_false, if_false]
        generalize K.err = x at *
        simp only [Cls.v, Cls.cells, cb0, o2] at *
        simp [e1, hl', e2, e3, e5, decE, he', bne]

theorem ev_Decode (b : List UInt8) (o : Bool) (hb : b.length ≤ 140737488355328) (hw : b.length ≤ 262144 → (decR b).cls.2.okS.1 = true → (decR b).cls.1.Wf ∧ (decR b).cls.1.Small) :
    ∃ M, ev tab prim 10 [.list 1 (b.map byteV) o] [[], []] = some (.tup [(decV b).1.v, .int .i64 (decV b).2.1, .int .i64 (decV b).2.2], M) := by
  obtain ⟨x, cb, ow, ar, hc, h1, h2⟩ := decScope b hb hw
  refine ⟨[[], ar], ?_⟩
  generalize (decV b).1 = K at *
  generalize (decV b).2.1 = e at *
  generalize (decV b).2.2 = at_ at *
  simp only [dSt, cb0, decE] at h1
  rw [ev_fn' tab prim (f := 10) rfl _ _ rfl]
  rcases h2 with ⟨rfl, rfl⟩ | ⟨rfl, rfl⟩
  · have h3 := decBad cb hc ow ar e at_
    simp only [decE, zeroC, Cls.cells] at h3
    simp [h1, h3, zeroC, Cls.v, Cls.cells]
  · simp only [Cls.cells] at h1
    simp [h1, Cls.v, Cls.cells]

end Go.Proofs.YtgmlanhhjmhmmaaGreat.Ev

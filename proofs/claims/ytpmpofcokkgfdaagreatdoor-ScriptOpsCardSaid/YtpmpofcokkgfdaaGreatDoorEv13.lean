/- The evaluator's equations, as rules for simp: each rule waits until what it looks at is there. -/
import Derived.Test.YtpmpofcokkgfdaaGreatDoorEv12
namespace Go.Proofs.YtpmpofcokkgfdaaGreatDoor.Ev
open Go
universe u

theorem nrfl {α : Sort u} {a b : α} (h : a = b) : a = b := h

@[simp] theorem natBeq_eq (a b : Nat) : Nat.beq a b = decide (a = b) := by
  rw [Bool.eq_iff_iff]; simp
@[simp] theorem natBlt_eq (a b : Nat) : Nat.blt a b = decide (a < b) := by
  rw [Bool.eq_iff_iff, Nat.blt_eq]; simp
@[simp] theorem natBle_eq (a b : Nat) : Nat.ble a b = decide (a ≤ b) := by
  rw [Bool.eq_iff_iff, Nat.ble_eq]; simp

theorem cond_dec {α : Type} (p : Prop) [Decidable p] (a b : α) : (bif decide p then a else b) = if p then a else b := by
  by_cases h : p <;> simp [h]
@[simp] theorem get_nil (t : Nat) : get [] t = .junk := nrfl rfl
@[simp] theorem get_cons (s t : Nat) (v : V) (r : Env) : get ((s, v) :: r) t = if s = t then v else get r t := by
  rw [get, natBeq_eq, cond_dec]
@[simp] theorem put_nil (t : Nat) (v : V) : put [] t v = [(t, v)] := nrfl rfl
@[simp] theorem put_cons (s t : Nat) (u v : V) (r : Env) : put ((s, u) :: r) t v = if s = t then (t, v) :: r else if t < s then (t, v) :: (s, u) :: r else (s, u) :: put r t v := by
  rw [put, natBeq_eq, natBlt_eq, cond_dec, cond_dec]
@[simp] theorem erase_nil (t : Nat) : erase [] t = [] := nrfl rfl
@[simp] theorem erase_cons (s t : Nat) (u : V) (r : Env) : erase ((s, u) :: r) t = if s = t then erase r t else (s, u) :: erase r t := by
  rw [erase, natBeq_eq, cond_dec]
@[simp] theorem bget_nil (t : Nat) : bget [] t = none := nrfl rfl
@[simp] theorem bget_cons (s t : Nat) (v : List V) (r : Boxes) : bget ((s, v) :: r) t = if s = t then some v else bget r t := by
  rw [bget, natBeq_eq, cond_dec]
@[simp] theorem bput_nil (t : Nat) (v : List V) : bput [] t v = [(t, v)] := nrfl rfl
@[simp] theorem bput_cons (s t : Nat) (u v : List V) (r : Boxes) : bput ((s, u) :: r) t v = if s = t then (t, v) :: r else if t < s then (t, v) :: (s, u) :: r else (s, u) :: bput r t v := by
  rw [bput, natBeq_eq, natBlt_eq, cond_dec, cond_dec]
@[simp] theorem berase_nil (t : Nat) : berase [] t = [] := nrfl rfl
@[simp] theorem berase_cons (s t : Nat) (u : List V) (r : Boxes) : berase ((s, u) :: r) t = if s = t then berase r t else (s, u) :: berase r t := by
  rw [berase, natBeq_eq, cond_dec]
@[simp] theorem mget_cons (b : Boxes) (m : Mem) (l t : Nat) : mget (b :: m) l t = if l = m.length then bget b t else mget m l t := by
  rw [mget, natBeq_eq, cond_dec]
@[simp] theorem mput_cons (b : Boxes) (m : Mem) (l t : Nat) (v : List V) : mput (b :: m) l t v = if l = m.length then bput b t v :: m else b :: mput m l t v := by
  rw [mput, natBeq_eq, cond_dec]

-- operations
def memK (m : Mem) (x : Option V) : Option (V × Mem) := x.map fun v => (v, m)
@[simp] theorem memK_some (m : Mem) (v : V) : memK m (some v) = some (v, m) := nrfl rfl
def putK (e : Env) (d : Option Nat) (x : Option (V × Mem)) : Option St := x.map fun (v, m) => { env := putO e d v, mem := m }
@[simp] theorem putK_some (e : Env) (d : Nat) (v : V) (m : Mem) : putK e (some d) (some (v, m)) = some { env := put e d v, mem := m } := nrfl rfl
@[simp] theorem putK_none (e : Env) (v : V) (m : Mem) : putK e none (some (v, m)) = some { env := e, mem := m } := nrfl rfl
theorem exec_eq (call : CallF) (o : AOp) (s : St) : o.exec call s = putK (stripTakes s.env o.args) o.dst (o.pr.run call o.dst (o.args.map (readArg s.env)) s.mem) := rfl
def opsK (call : CallF) (l : List AOp) (x : Option St) : Option St := x.bind (evOps call l)
@[simp] theorem opsK_nil (call : CallF) (s : St) : opsK call [] (some s) = some s := nrfl rfl
def guardK (call : CallF) (o : AOp) (s : St) (b : Bool) : V → Option St
  | .bool c => bif c == b then o.exec call s else some { s with env := putO s.env o.dst .undef }
  | .undef => some { s with env := putO s.env o.dst .undef }
  | _ => none
@[simp] theorem guardK_tt (call : CallF) (o : AOp) (s : St) : guardK call o s true (.bool true) = o.exec call s := nrfl rfl
@[simp] theorem guardK_ff (call : CallF) (o : AOp) (s : St) : guardK call o s false (.bool false) = o.exec call s := nrfl rfl
@[simp] theorem guardK_tf (call : CallF) (o : AOp) (s : St) : guardK call o s true (.bool false) = some { s with env := putO s.env o.dst .undef } := nrfl rfl
@[simp] theorem guardK_ft (call : CallF) (o : AOp) (s : St) : guardK call o s false (.bool true) = some { s with env := putO s.env o.dst .undef } := nrfl rfl
@[simp] theorem guardK_u (call : CallF) (o : AOp) (s : St) (b : Bool) : guardK call o s b .undef = some { s with env := putO s.env o.dst .undef } := nrfl rfl
@[simp] theorem opsK_cons (call : CallF) (d : Option Nat) (args : List AArg) (pr : Prim) (r : List AOp) (s : St) :
    opsK call (⟨d, none, args, pr⟩ :: r) (some s) = opsK call r (putK (stripTakes s.env args) d (pr.run call d (args.map (readArg s.env)) s.mem)) := nrfl rfl
@[simp] theorem opsK_cons_g (call : CallF) (d : Option Nat) (g : Nat) (b : Bool) (args : List AArg) (pr : Prim) (r : List AOp) (s : St) :
    opsK call (⟨d, some (g, b), args, pr⟩ :: r) (some s) = opsK call r (guardK call ⟨d, some (g, b), args, pr⟩ s b (get s.env g)) := by
  show (evOp call _ s).bind _ = _
  unfold opsK evOp guardK
  cases hh : get s.env g <;> simp only [hh]
@[simp] theorem exec_eq' (call : CallF) (d : Option Nat) (g : Option (Nat × Bool)) (args : List AArg) (pr : Prim) (s : St) :
    AOp.exec call ⟨d, g, args, pr⟩ s = putK (stripTakes s.env args) d (pr.run call d (args.map (readArg s.env)) s.mem) := nrfl rfl

@[simp] theorem run_mv (call : CallF) (d : Option Nat) (x : V) (m : Mem) : Prim.mv.run call d [x] m = some (x, m) := nrfl rfl
@[simp] theorem run_pick_t (call : CallF) (d : Option Nat) (a b : V) (m : Mem) : Prim.pick.run call d [.bool true, a, b] m = some (a.strip, m) := nrfl rfl
@[simp] theorem run_pick_f (call : CallF) (d : Option Nat) (a b : V) (m : Mem) : Prim.pick.run call d [.bool false, a, b] m = some (b.strip, m) := nrfl rfl
theorem run_pick (call : CallF) (d : Option Nat) (c : Bool) (a b : V) (m : Mem) : Prim.pick.run call d [.bool c, a, b] m = some (bif c then a.strip else b.strip, m) := rfl
@[simp] theorem run_bin (call : CallF) (d : Option Nat) (op : BinOp) (xs : List V) (m : Mem) : (Prim.bin op).run call d xs m = memK m (rBin op xs) := nrfl rfl
@[simp] theorem run_not (call : CallF) (d : Option Nat) (b : Bool) (m : Mem) : (Prim.un .not).run call d [.bool b] m = some (.bool !b, m) := nrfl rfl
@[simp] theorem run_neg (call : CallF) (d : Option Nat) (xs : List V) (m : Mem) : (Prim.un .neg).run call d xs m = memK m (rNeg xs) := nrfl rfl
@[simp] theorem run_beq (call : CallF) (d : Option Nat) (neg a b : Bool) (m : Mem) : (Prim.beq neg).run call d [.bool a, .bool b] m = some (.bool (neg ^^ (a == b)), m) := nrfl rfl
@[simp] theorem run_seq (call : CallF) (d : Option Nat) (ks : List Nat) (neg : Bool) (xs : List V) (m : Mem) : (Prim.seq ks neg).run call d xs m = memK m (rSeq ks neg xs) := nrfl rfl
@[simp] theorem run_isnil (call : CallF) (d : Option Nat) (neg : Bool) (xs : List V) (m : Mem) : (Prim.isnil neg).run call d xs m = memK m (rIsnil neg xs) := nrfl rfl
@[simp] theorem run_sidx (call : CallF) (d : Option Nat) (xs : List V) (m : Mem) : Prim.sidx.run call d xs m = memK m (rSidx xs) := nrfl rfl
@[simp] theorem run_aidx (call : CallF) (d : Option Nat) (n sz : Nat) (ag : Bool) (xs : List V) (m : Mem) : (Prim.aidx n sz ag).run call d xs m = memK m (rAidx n sz ag xs) := nrfl rfl
@[simp] theorem run_iaddr (call : CallF) (d : Option Nat) (sz : Nat) (xs : List V) (m : Mem) : (Prim.iaddr sz).run call d xs m = memK m (rIaddr sz xs) := nrfl rfl
@[simp] theorem run_iaddra (call : CallF) (d : Option Nat) (n sz : Nat) (xs : List V) (m : Mem) : (Prim.iaddra n sz).run call d xs m = memK m (rIaddra n sz xs) := nrfl rfl
@[simp] theorem run_faddr (call : CallF) (d : Option Nat) (off : Nat) (xs : List V) (m : Mem) : (Prim.faddr off).run call d xs m = memK m (rFaddr off xs) := nrfl rfl
@[simp] theorem run_ssl (call : CallF) (d : Option Nat) (lo hi : Bool) (xs : List V) (m : Mem) : (Prim.ssl lo hi).run call d xs m = memK m (rSsl lo hi xs) := nrfl rfl
@[simp] theorem run_asl (call : CallF) (d : Option Nat) (n sz : Nat) (xs : List V) (m : Mem) : (Prim.asl n sz).run call d xs m = memK m (rAsl n sz xs) := nrfl rfl
@[simp] theorem run_lsl (call : CallF) (d : Option Nat) (sz : Nat) (lo hi : Bool) (xs : List V) (m : Mem) : (Prim.lsl sz lo hi false).run call d xs m = memK m (rLsl sz lo hi false xs) := nrfl rfl
@[simp] theorem run_slen (call : CallF) (d : Option Nat) (s : List UInt8) (m : Mem) : Prim.slen.run call d [.str s] m = some (.int .i64 s.length, m) := nrfl rfl
@[simp] theorem run_llen (call : CallF) (d : Option Nat) (sz : Nat) (s : List V) (o : Bool) (m : Mem) : Prim.llen.run call d [.list sz s o] m = some (.int .i64 s.length, m) := nrfl rfl
@[simp] theorem run_append (call : CallF) (d : Option Nat) (sz bytes : Nat) (xs : List V) (m : Mem) : (Prim.append sz bytes).run call d xs m = memK m (rAppend sz bytes xs) := nrfl rfl
@[simp] theorem run_ext (call : CallF) (d : Option Nat) (i : Nat) (vs : List V) (m : Mem) : (Prim.ext i).run call d [.tup vs] m = memK m ((vs[i]?).map V.strip) := nrfl rfl
@[simp] theorem run_fld (call : CallF) (d : Option Nat) (off : Nat) (n : Option Nat) (xs : List V) (m : Mem) : (Prim.fld off n).run call d xs m = memK m (rFld off n xs) := nrfl rfl
@[simp] theorem run_build (call : CallF) (d : Option Nat) (z : List V) (ps : List (Nat × Nat)) (xs : List V) (m : Mem) : (Prim.build z ps).run call d xs m = memK m (rBuild z ps xs) := nrfl rfl
@[simp] theorem run_bslice (call : CallF) (d : Option Nat) (sz n : Nat) (z : List V) (ps : List (Nat × Nat)) (xs : List V) (m : Mem) : (Prim.bslice sz n z ps).run call d xs m = memK m (rBslice sz n z ps xs) := nrfl rfl
@[simp] theorem run_convi (call : CallF) (d : Option Nat) (k k' : IntKind) (n : Int) (m : Mem) : (Prim.convi k).run call d [.int k' n] m = some (.int k (k.wrap n), m) := nrfl rfl
@[simp] theorem run_mkf (call : CallF) (d : Option Nat) (fn : Fn) (nf : Nat) (xs : List V) (m : Mem) : (Prim.mkf fn nf).run call d xs m = some (.func fn (xs.take nf) (xs.drop nf), m) := nrfl rfl
@[simp] theorem run_bslicef (call : CallF) (d : Option Nat) (sz n : Nat) (z : List V) (ps : List (Nat × Nat)) (xs : List V) (m : Mem) : (Prim.bslicef sz n z ps).run call d xs m = memK m (rBslicef sz n z ps xs) := nrfl rfl
@[simp] theorem run_nilchk (call : CallF) (d : Option Nat) (xs : List V) (m : Mem) : Prim.nilchk.run call d xs m = memK m (rNilchk xs) := nrfl rfl
def loadK (n : Option Nat) (o : Nat) (x : Option (List V)) : Option V := x.bind fun cs => loadB n (cs.drop o)
@[simp] theorem loadK_some (n : Option Nat) (o : Nat) (cs : List V) : loadK n o (some cs) = loadB n (cs.drop o) := nrfl rfl
@[simp] theorem loadB_none (cs : List V) : loadB none cs = loadV none cs := nrfl rfl
@[simp] theorem loadB_some (k : Nat) (cs : List V) : loadB (some k) cs = if ((cs.take k).map V.strip1).length = k ∧ ((cs.take k).map V.strip1).all okc = true then some (.agg ((cs.take k).map V.strip1)) else none := nrfl rfl
@[simp] theorem run_load_c (call : CallF) (d : Option Nat) (n : Option Nat) (cs : List V) (m : Mem) : (Prim.load n).run call d [.cptr cs] m = memK m (loadV n cs) := by
  show (match rLoad n [.cptr cs] with | some v => some (v, m) | none => _) = _
  simp only [rLoad]
  cases loadV n cs <;> rfl
@[simp] theorem run_load_p (call : CallF) (d : Option Nat) (n : Option Nat) (l t o : Nat) (m : Mem) : (Prim.load n).run call d [.ptr l t o] m = memK m (loadK n o (mget m l t)) := nrfl rfl
def storeK (n l t o : Nat) (x : V) (m : Mem) (y : Option (List V)) : Option (V × Mem) := y.bind fun cs =>
  if x.cells.length = n ∧ o + n ≤ cs.length ∧ x.cells.all (dataCell l) = true then some (.undef, mput m l t (spliceAt o x.cells cs)) else none
@[simp] theorem run_store (call : CallF) (n l t o : Nat) (x : V) (m : Mem) : (Prim.store n).run call none [.ptr l t o, x] m = storeK n l t o x m (mget m l t) := nrfl rfl
@[simp] theorem storeK_some (n l t o : Nat) (x : V) (m : Mem) (cs : List V) : storeK n l t o x m (some cs) = if x.cells.length = n ∧ o + n ≤ cs.length ∧ x.cells.all (dataCell l) = true then some (.undef, mput m l t (spliceAt o x.cells cs)) else none := nrfl rfl
@[simp] theorem run_alloc (call : CallF) (d : Option Nat) (z : List V) (m : Mem) : (Prim.alloc z).run call d [] m = newBox z d m := nrfl rfl
@[simp] theorem run_box (call : CallF) (d : Option Nat) (x : V) (m : Mem) : Prim.box.run call d [x] m = newBox x.cells d m := nrfl rfl
@[simp] theorem newBox_eq (cs : List V) (d : Nat) (b : Boxes) (m : Mem) : newBox cs (some d) (b :: m) = if bget b d = none then (if cs.all (newCell m.length) = true then some (.ptr m.length d 0,  bput b d (cs.map ownE) :: m) else none) else none := by
  unfold newBox
  cases h : bget b d <;> simp [h]
@[simp] theorem run_call (call : CallF) (d : Option Nat) (f : Nat) (xs : List V) (m : Mem) : (Prim.call f).run call d xs m = call f xs m := nrfl rfl
def callpK (x : Option (V × Mem)) (m : Mem) : Option (V × Mem) := x.bind fun (v, _) => if deepLocal v then none else some (v, m)
@[simp] theorem callpK_some (v : V) (m' m : Mem) : callpK (some (v, m')) m = if deepLocal v = true then none else some (v, m) := nrfl rfl
def calltK (d : Option Nat) (x : Option (V × Mem)) (m : Mem) : Option (V × Mem) := x.bind fun (v, _) => if deepLocal v then none else some (thaw d v m)
@[simp] theorem calltK_some (d : Option Nat) (v : V) (m' m : Mem) : calltK d (some (v, m')) m = if deepLocal v = true then none else some (thaw d v m) := nrfl rfl
@[simp] theorem run_callt (call : CallF) (d : Option Nat) (f : Nat) (xs : List V) (m : Mem) : (Prim.callt f).run call d xs m = if xs.all (fun v => !isLocal v) = true then calltK d (call f xs [[], []]) m else none := by
  show (rCallp call f xs).map _ = _
  unfold rCallp calltK
  split
  · cases call f xs [[], []] with
    | none => rfl
    | some p =>
      obtain ⟨v, m'⟩ := p
      simp only [Option.bind_some]
      split <;> rfl
  · rfl
@[simp] theorem run_callp (call : CallF) (d : Option Nat) (f : Nat) (xs : List V) (m : Mem) : (Prim.callp f).run call d xs m = if xs.all (fun v => !isLocal v) = true then callpK (call f xs [[], []]) m else none := by
  show (rCallp call f xs).map _ = _
  unfold rCallp callpK
  split
  · cases call f xs [[], []] with
    | none => rfl
    | some p =>
      obtain ⟨v, m'⟩ := p
      simp only [Option.bind_some]
      split <;> rfl
  · rfl
@[simp] theorem run_callv (call : CallF) (d : Option Nat) (f : Nat) (a b xs : List V) (m : Mem) : Prim.callv.run call d (.func (.func f) a b :: xs) m = call f (a ++ xs ++ b) m := nrfl rfl
@[simp] theorem run_shf (call : CallF) (d : Option Nat) (op : BinOp) (xs : List V) (m : Mem) : (Prim.shf op).run call d xs m = memK m (rShf op xs) := nrfl rfl
@[simp] theorem run_builds (call : CallF) (d : Option Nat) (z : List V) (ps : List (Nat × Nat)) (xs : List V) (m : Mem) : (Prim.builds z ps).run call d xs m = memK m (rBuilds z ps xs) := nrfl rfl
@[simp] theorem run_b2s (call : CallF) (d : Option Nat) (xs : List V) (m : Mem) : Prim.b2s.run call d xs m = memK m (rB2s xs) := nrfl rfl
@[simp] theorem run_s2b (call : CallF) (d : Option Nat) (xs : List V) (m : Mem) : Prim.s2b.run call d xs m = memK m (rS2b xs) := nrfl rfl
@[simp] theorem run_appends (call : CallF) (d : Option Nat) (xs : List V) (m : Mem) : Prim.appends.run call d xs m = memK m (rAppends xs) := nrfl rfl
@[simp] theorem run_extk (call : CallF) (d : Option Nat) (i : Nat) (xs : List V) (m : Mem) : (Prim.extk i).run call d xs m = memK m (rExtk i xs) := nrfl rfl
@[simp] theorem run_lsl0 (call : CallF) (d : Option Nat) (sz : Nat) (lo hi : Bool) (xs : List V) (m : Mem) : (Prim.lsl sz lo hi true).run call d xs m = memK m (rLsl0 sz xs) := nrfl rfl
@[simp] theorem run_anew (call : CallF) (d : Option Nat) (z : List V) (m : Mem) : (Prim.anew z).run call d [] m = newAt 0 z m := nrfl rfl
@[simp] theorem run_abox (call : CallF) (d : Option Nat) (x : V) (m : Mem) : Prim.abox.run call d [x] m = newAt 0 x.cells m := nrfl rfl
def newK (l : Nat) (x : Option (Nat × Mem)) : Option (V × Mem) := x.map fun (k, m') => (.ptr l k 0, m')
@[simp] theorem newK_some (l k : Nat) (m : Mem) : newK l (some (k, m)) = some (.ptr l k 0, m) := nrfl rfl
@[simp] theorem newAt_eq (l : Nat) (cs : List V) (m : Mem) : newAt l cs m = if cs.all (newCell 0) = true then newK l (mnew l (cs.map ownE) m) else none := nrfl rfl
@[simp] theorem mnew_cons (l : Nat) (cs : List V) (b : Boxes) (m : Mem) : mnew l cs (b :: m) = if l = m.length then (if bget b b.length = none then some (b.length, (b ++ [(b.length, cs)]) :: m) else none) else (mnew l cs m).map fun (k, m') => (k, b :: m') := by
  rw [mnew, natBeq_eq, cond_dec]
  congr 1
  cases h : bget b b.length <;> simp
def takeK (l t o : Nat) (m : Mem) (x : Option (List V)) : Option (V × Mem) := x.bind fun cs => (cs[o]?).map fun v => (v, mput m l t (cs.set o v.strip1))
@[simp] theorem takeK_some (l t o : Nat) (m : Mem) (cs : List V) : takeK l t o m (some cs) = (cs[o]?).map fun v => (v, mput m l t (cs.set o v.strip1)) := nrfl rfl
@[simp] theorem run_loadk (call : CallF) (d : Option Nat) (l t o : Nat) (m : Mem) : Prim.loadk.run call d [.ptr l t o] m = takeK l t o m (mget m l t) := nrfl rfl
@[simp] theorem run_allocf (call : CallF) (d : Option Nat) (n : Nat) (m : Mem) : (Prim.allocf n).run call d [] m = some (.fptr n, m) := nrfl rfl
@[simp] theorem run_boxc (call : CallF) (d : Option Nat) (xs : List V) (m : Mem) : Prim.boxc.run call d xs m = memK m (rBoxc xs) := nrfl rfl
@[simp] theorem run_storec (call : CallF) (d : Option Nat) (n : Nat) (xs : List V) (m : Mem) : (Prim.storec n).run call d xs m = memK m (rStorec n xs) := nrfl rfl
@[simp] theorem run_loadc (call : CallF) (d : Option Nat) (n : Option Nat) (cs : List V) (m : Mem) : (Prim.loadc n).run call d [.cptr cs] m = memK m (loadV n cs) := nrfl rfl
@[simp] theorem run_isnils (call : CallF) (d : Option Nat) (neg : Bool) (xs : List V) (m : Mem) : (Prim.isnils neg).run call d xs m = memK m (rIsnils neg xs) := nrfl rfl
def copyK (n l t o : Nat) (xs : List V) (m : Mem) (y : Option (List V)) : Option (V × Mem) := y.bind fun cs => if o + n ≤ cs.length ∧ (flat (xs.take n)).all (dataCell l) = true then some (.int .i64 (min xs.length n : Nat), mput m l t (spliceAt o (flat (xs.take n)) cs)) else none
@[simp] theorem copyK_some (n l t o : Nat) (xs : List V) (m : Mem) (cs : List V) : copyK n l t o xs m (some cs) = if o + n ≤ cs.length ∧ (flat (xs.take n)).all (dataCell l) = true then some (.int .i64 (min xs.length n : Nat), mput m l t (spliceAt o (flat (xs.take n)) cs)) else none := nrfl rfl
@[simp] theorem run_copyb (call : CallF) (d : Option Nat) (l t o n : Nat) (xs : List V) (b : Bool) (m : Mem) : (Prim.copyb 1).run call d [.slc l t o 1 n, .list 1 xs b] m = copyK n l t o xs m (mget m l t) := by
  show rCopyb 1 [.slc l t o 1 n, .list 1 xs b] m = _
  unfold rCopyb copyK
  simp
def rngK (x : Option (Nat × Mem)) : Option (V × Mem) := x.map fun (k, m') => (.iref k, m')
@[simp] theorem rngK_some (k : Nat) (m : Mem) : rngK (some (k, m)) = some (.iref k, m) := nrfl rfl
@[simp] theorem run_rng (call : CallF) (d : Option Nat) (s : List UInt8) (m : Mem) : Prim.rng.run call d [.str s] m = rngK (mnew 1 [.siter s 0] m) := nrfl rfl
def nxtK (t : Nat) (m : Mem) (y : Option (List V)) : Option (V × Mem) := y.bind fun cs => match cs with
  | [.siter s pos] => if pos < s.length then some (.tup [.bool true, .int .i64 pos, .int .i32 (Utf8.decode ⟨s.toArray⟩ pos).1], mput m 1 t [.siter s (pos + (Utf8.decode ⟨s.toArray⟩ pos).2)]) else some (.tup [.bool false], m)
  | _ => none
@[simp] theorem nxtK_some (t : Nat) (m : Mem) (s : List UInt8) (pos : Nat) : nxtK t m (some [.siter s pos]) = if pos < s.length then some (.tup [.bool true, .int .i64 pos, .int .i32 (Utf8.decode ⟨s.toArray⟩ pos).1], mput m 1 t [.siter s (pos + (Utf8.decode ⟨s.toArray⟩ pos).2)]) else some (.tup [.bool false], m) := nrfl rfl
@[simp] theorem run_nxt (call : CallF) (d : Option Nat) (t : Nat) (m : Mem) : Prim.nxt.run call d [.iref t] m = nxtK t m (mget m 1 t) := nrfl rfl
@[simp] theorem run_i2s (call : CallF) (d : Option Nat) (k : IntKind) (n : Int) (m : Mem) : Prim.i2s.run call d [.int k n] m = some (.str (Utf8.encode n).data.toList, m) := nrfl rfl
@[simp] theorem run_isifc (call : CallF) (d : Option Nat) (neg : Bool) (xs : List V) (m : Mem) : (Prim.isifc neg).run call d xs m = memK m (rIsifc neg xs) := nrfl rfl
@[simp] theorem run_cvb (call : CallF) (d : Option Nat) (xs : List V) (m : Mem) : Prim.cvb.run call d xs m = memK m (rCvb xs) := nrfl rfl
def mapK (x : Option (Nat × Mem)) : Option (V × Mem) := x.map fun (k, m') => (.mref k, m')
@[simp] theorem mapK_some (k : Nat) (m : Mem) : mapK (some (k, m)) = some (.mref k, m) := nrfl rfl
@[simp] theorem run_mkmap (call : CallF) (d : Option Nat) (kd : Option IntKind) (m : Mem) : (Prim.mkmap kd).run call d [] m = mapK (mnew 1 [.mapv kd [] []] m) := nrfl rfl
def mgetK (kd : Option IntKind) (ok : Bool) (zero x : V) (y : Option (List V)) : Option V := y.bind fun cs => match cs with
  | [.mapv kd' ks vs] => bif decide (kd' = kd) && isKey kd x then some (mapAns ok zero (findK ks vs x)) else none
  | _ => none
@[simp] theorem mgetK_some (kd : Option IntKind) (ok : Bool) (zero x : V) (kd' : Option IntKind) (ks vs : List V) : mgetK kd ok zero x (some [.mapv kd' ks vs]) = if kd' = kd ∧ isKey kd x = true then some (mapAns ok zero (findK ks vs x)) else none := by
  unfold mgetK
  by_cases h : kd' = kd <;> cases h2 : isKey kd x <;> simp [h]
@[simp] theorem run_mget (call : CallF) (d : Option Nat) (kd : Option IntKind) (ok : Bool) (zero x : V) (t : Nat) (m : Mem) : (Prim.mget kd ok zero).run call d [.mref t, x] m = memK m (mgetK kd ok zero x (mget m 1 t)) := nrfl rfl
def msetK (kd : Option IntKind) (t : Nat) (x y : V) (m : Mem) (z : Option (List V)) : Option (V × Mem) := z.bind fun cs => match cs with
  | [.mapv kd' ks vs] => if kd' = kd ∧ isKey kd x = true ∧ data y = true then some (.undef, mput m 1 t [(fun p => .mapv kd p.1 p.2) (setK ks vs x y)]) else none
  | _ => none
@[simp] theorem msetK_some (kd : Option IntKind) (t : Nat) (x y : V) (m : Mem) (kd' : Option IntKind) (ks vs : List V) : msetK kd t x y m (some [.mapv kd' ks vs]) = if kd' = kd ∧ isKey kd x = true ∧ data y = true then some (.undef, mput m 1 t [.mapv kd (setK ks vs x y).1 (setK ks vs x y).2]) else none := nrfl rfl
@[simp] theorem run_mset (call : CallF) (kd : Option IntKind) (t : Nat) (x y : V) (m : Mem) : (Prim.mset kd).run call none [.mref t, x, y] m = msetK kd t x y m (mget m 1 t) := nrfl rfl
@[simp] theorem run_mkrow (call : CallF) (d : Nat) (sz bytes : Nat) (zero : List V) (n c : Int) (b : Boxes) (m : Mem) : (Prim.mkrow sz bytes zero).run call (some d) [.int .i64 n, .int .i64 c] (b :: m) =
    if 0 ≤ n ∧ c = n ∧ n * bytes ≤ 140737488355328 ∧ n * sz ≤ 140737488355328 then (if bget b d = none then (if zero.all (newCell m.length) = true then some (.slc m.length d 0 sz n.toNat, bput b d (List.replicate n.toNat zero).flatten :: m) else none) else none) else none := by
  show rMkrow sz bytes zero (some d) [.int .i64 n, .int .i64 c] (b :: m) = _
  unfold rMkrow
  simp only
  congr 1
  cases h : bget b d <;> simp
@[simp] theorem run_llen_slc (call : CallF) (d : Option Nat) (l t o sz n : Nat) (m : Mem) : Prim.llen.run call d [.slc l t o sz n] m = some (.int .i64 n, m) := nrfl rfl

attribute [simp] pickOps
attribute [simp] readArg stripTakes putO dropAll initEnv resOne resAll resultOf eraseAll
attribute [simp] ownE rBin rNeg rSeq rIsifc rIsnil rSidx rAidx rIaddr rIaddra rFaddr rSsl rLsl rAppend rFld rBuild rBslice rBslicef rNilchk rShf rBuilds rB2s rS2b rAppends rExtk rLsl0 rBoxc rStorec rIsnils rCvb notTup partOk sCell V.isOwn V.strip1 deepLocal newCell isKey data
attribute [simp] thaw scalar frz1 frzE freeze
attribute [simp] intBin strBin cellEq cellsEq asI bounds spliceAt fillV loadV chunk isLocal V.isOneCell okc data dataCell V.strip V.cells noPtr noPtr1 pointsTo unpointed findL

-- code
section
variable (A : Nat → Option AFunc) (prim : CallF)
def endK (cl dr : List Nat) (x : Option St) : Res := x.bind fun s' => (dropAll dr { s' with env := eraseAll cl s'.env }).map fun s'' => (.normal, s'')
def normK (x : Option St) : Res := x.map fun s => (.normal, s)
@[simp] theorem normK_some (s : St) : normK (some s) = some (.normal, s) := nrfl rfl
@[simp] theorem endK_some (cl dr : List Nat) (s : St) : endK cl dr (some s) = normK (dropAll dr { s with env := eraseAll cl s.env }) := nrfl rfl
@[simp] theorem cv_ops' (l : List AOp) (cl dr : List Nat) (s : St) : cv A prim (.ops l cl dr) s = endK cl dr (opsK (ev A prim) l (some s)) := cv_ops A prim l cl dr s
/-- All orders give the same. -/
noncomputable def sameK (x : Option St) : List (Option St) → Option St
  | [] => x
  | y :: r => open Classical in if y = x then sameK x r else none
@[simp] theorem sameK_nil (x : Option St) : sameK x [] = x := nrfl rfl
@[simp] theorem sameK_cons (s : St) (r : List (Option St)) : sameK (some s) (some s :: r) = sameK (some s) r := by
  unfold sameK; rw [if_pos rfl]; cases r <;> rfl
theorem sameK_eq (call : CallF) (l : List AOp) (ys : List (List Nat)) (s : St) (x : Option St) : (∀ s', sameK x (ys.map fun y => evOps call (pickOps l y) s) = some s' ↔ x = some s' ∧ ∀ y ∈ ys, evOps call (pickOps l y) s = some s') := by
  intro s'
  induction ys with
  | nil => simp [sameK]
  | cons y r ih =>
    simp only [List.map_cons, sameK]
    constructor
    · intro h
      split at h
      · rename_i hy
        obtain ⟨h1, h2⟩ := ih.1 h
        refine ⟨h1, fun z hz => ?_⟩
        rcases List.mem_cons.1 hz with rfl | hz
        · rw [hy, h1]
        · exact h2 z hz
      · cases h
    · rintro ⟨h1, h2⟩
      have hy := h2 y (by simp)
      rw [if_pos (by rw [hy, h1])]
      exact ih.2 ⟨h1, fun z hz => h2 z (by simp [hz])⟩
@[simp] theorem cv_opsd' (l : List AOp) (D : List Nat) (alts : List (List Nat)) (cl dr : List Nat) (s : St) : cv A prim (.opsd l D alts cl dr) s = endK cl dr (sameK (opsK (ev A prim) l (some s)) (alts.map fun y => opsK (ev A prim) (pickOps l y) (some s))) := by
  rw [cv_opsd]
  have e : evOpsD (ev A prim) l alts s = sameK (opsK (ev A prim) l (some s)) (alts.map fun y => opsK (ev A prim) (pickOps l y) (some s)) :=
    opt_ext fun s' => evOpsD_some.trans (sameK_eq (ev A prim) l alts s (evOps (ev A prim) l s) s').symm
  rw [e]; rfl
noncomputable def clrK (b : ACode) (x : Option St) : Res := x.bind (cv A prim b)
@[simp] theorem clrK_some (b : ACode) (s : St) : clrK A prim b (some s) = cv A prim b s := nrfl rfl
@[simp] theorem cv_clr' (cl dr : List Nat) (b : ACode) (s : St) : cv A prim (.clr cl dr b) s = clrK A prim b (dropAll dr { s with env := eraseAll cl s.env }) := cv_clr A prim cl dr b s
noncomputable def seqK (b : ACode) (x : Res) : Res := x.bind fun (e, s') => match e with
  | .normal => cv A prim b s'
  | e => some (e, s')
@[simp] theorem seqK_n (b : ACode) (s : St) : seqK A prim b (some (.normal, s)) = cv A prim b s := nrfl rfl
@[simp] theorem seqK_r (b : ACode) (s : St) : seqK A prim b (some (.ret, s)) = some (.ret, s) := nrfl rfl
@[simp] theorem seqK_e (b : ACode) (s : St) (i : Nat) : seqK A prim b (some (.exit i, s)) = some (.exit i, s) := nrfl rfl
@[simp] theorem seqK_g (b : ACode) (s : St) (i : Nat) : seqK A prim b (some (.goto i, s)) = some (.goto i, s) := nrfl rfl
@[simp] theorem cv_seq' (a b : ACode) (s : St) : cv A prim (.seq a b) s = seqK A prim b (cv A prim a s) := cv_seq A prim a b s
noncomputable def condK (a b : ACode) (s : St) (v : V) : Res := match v with
  | .bool t => bif t then cv A prim a s else cv A prim b s
  | _ => none
@[simp] theorem condK_t (a b : ACode) (s : St) : condK A prim a b s (.bool true) = cv A prim a s := nrfl rfl
@[simp] theorem condK_f (a b : ACode) (s : St) : condK A prim a b s (.bool false) = cv A prim b s := nrfl rfl
@[simp] theorem cv_cond' (c : AArg) (a b : ACode) (s : St) : cv A prim (.cond c a b) s = condK A prim a b s (readArg s.env c) := cv_cond A prim c a b s
def blockK (i : Nat) (x : Res) : Res := x.bind (blockExit i)
@[simp] theorem blockK_n (i : Nat) (s : St) : blockK i (some (.normal, s)) = some (.normal, s) := nrfl rfl
@[simp] theorem blockK_r (i : Nat) (s : St) : blockK i (some (.ret, s)) = some (.ret, s) := nrfl rfl
@[simp] theorem blockK_g (i l : Nat) (s : St) : blockK i (some (.goto l, s)) = some (.goto l, s) := nrfl rfl
@[simp] theorem blockK_e (i j : Nat) (s : St) : blockK i (some (.exit j, s)) = if j = i then some (.normal, s) else some (.exit j, s) := nrfl rfl
@[simp] theorem cv_block' (i : Nat) (b : ACode) (s : St) : cv A prim (.block i b) s = blockK i (cv A prim b s) := cv_block A prim i b s
attribute [simp] cv_skip cv_exit cv_goto cv_label cv_ret cv_scope
@[simp] theorem cj_n (b : ACode) (s : St) : cj A prim b (some (.normal, s)) = some (.normal, s) := cj_some A prim b _ s
@[simp] theorem cj_r (b : ACode) (s : St) : cj A prim b (some (.ret, s)) = some (.ret, s) := cj_some A prim b _ s
@[simp] theorem cj_e (b : ACode) (s : St) (i : Nat) : cj A prim b (some (.exit i, s)) = some (.exit i, s) := cj_some A prim b _ s
theorem cj_g (b : ACode) (s : St) (l : Nat) {rest : ACode} (h : findL b l = some rest) : cj A prim b (some (.goto l, s)) = cj A prim b (cv A prim rest s) := by
  rw [cj_some]; simp only [h]
/-- One round of a loop. -/
noncomputable def roundK (b : ACode) (x : Res) : Res := x.bind fun (e, s') => match e with
  | .normal => cv A prim (.loop b) s'
  | e => some (e, s')
theorem cv_loop' (b : ACode) (s : St) : cv A prim (.loop b) s = roundK A prim b (cv A prim b s) := cv_loop A prim b s
@[simp] theorem roundK_n (b : ACode) (s : St) : roundK A prim b (some (.normal, s)) = cv A prim (.loop b) s := nrfl rfl
@[simp] theorem roundK_r (b : ACode) (s : St) : roundK A prim b (some (.ret, s)) = some (.ret, s) := nrfl rfl
@[simp] theorem roundK_e (b : ACode) (s : St) (i : Nat) : roundK A prim b (some (.exit i, s)) = some (.exit i, s) := nrfl rfl
@[simp] theorem roundK_g (b : ACode) (s : St) (i : Nat) : roundK A prim b (some (.goto i, s)) = some (.goto i, s) := nrfl rfl
def finK (rs : List ARes) (x : Res) : Option (V × Mem) := x.bind fun p => match p with
  | (.normal, s) | (.ret, s) => match s.mem with
    | [] => none
    | _ :: m => (resultOf s rs).bind fun v => if noPtr m.length v then some (v, m) else none
  | _ => none
def resK (m : Mem) (x : Option V) : Option (V × Mem) := x.bind fun v => if noPtr m.length v then some (v, m) else none
@[simp] theorem resK_some (m : Mem) (v : V) : resK m (some v) = if noPtr m.length v then some (v, m) else none := nrfl rfl
@[simp] theorem finK_r (rs : List ARes) (e : Env) (b : Boxes) (m : Mem) : finK rs (some (.ret, { env := e, mem := b :: m })) = resK m (resultOf { env := e, mem := b :: m } rs) := nrfl rfl
@[simp] theorem finK_n (rs : List ARes) (e : Env) (b : Boxes) (m : Mem) : finK rs (some (.normal, { env := e, mem := b :: m })) = resK m (resultOf { env := e, mem := b :: m } rs) := nrfl rfl
theorem ev_fn' {f : Nat} {n : Nat} {body : ACode} {rs : List ARes} (h : A f = some ⟨n, body, rs⟩) (xs : List V) (m : Mem) (hn : xs.length = n) :
    ev A prim f xs m = finK rs (cv A prim body { env := initEnv 0 xs, mem := [] :: m }) := by
  rw [ev_fn A prim h xs m hn]
  refine congrArg (fun g => Option.bind _ g) (funext fun p => ?_)
  obtain ⟨e, s⟩ := p
  cases e <;> rfl
end

theorem ev_of_fuel {A : Nat → Option AFunc} {prim : CallF} {f : Nat} {xs : List V} {m : Mem} {x : V × Mem} (n : Nat) (h : evF A prim n f xs m = some x) : ev A prim f xs m = some x :=
  (ev_iff A prim f xs m x).2 ⟨n, h⟩

end Go.Proofs.YtpmpofcokkgfdaaGreatDoor.Ev

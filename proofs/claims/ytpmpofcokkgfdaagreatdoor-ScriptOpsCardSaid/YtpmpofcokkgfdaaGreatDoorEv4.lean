/- Operations that read no box and make no memory: the model's step gives what the evaluator says. -/
import Derived.Test.YtpmpofcokkgfdaaGreatDoorEv3
import Derived.Laws.Strings
import Derived.Laws.Runes
namespace Go.Proofs.YtpmpofcokkgfdaaGreatDoor.Ev
open Go

/-! ### What a V stands for -/
section inv
variable {G : Gh} {v : Value}
theorem SRep.int_inv {k : IntKind} {n : Int} (h : SRep G v (.int k n)) : v = .int k n := by cases h with | data r => cases r; rfl
theorem SRep.bool_inv {b : Bool} (h : SRep G v (.bool b)) : v = .bool b := by cases h with | data r => cases r; rfl
theorem SRep.str_inv {s : List UInt8} (h : SRep G v (.str s)) : v = .string ⟨s.toArray⟩ := by cases h with | data r => cases r; rfl
theorem SRep.undef_inv (h : SRep G v .undef) : v = Go.undef := by cases h with | data r => cases r; rfl
theorem SRep.nilp_inv (h : SRep G v .nilp) : v = .pointer none := by cases h with | data r => cases r; rfl
theorem SRep.nilf_inv (h : SRep G v .nilf) : v = .nilFunc := by cases h with | data r => cases r; rfl
theorem SRep.ptr_inv {l t o : Nat} (h : SRep G v (.ptr l t o)) : ∃ b n, (l < G.lv ∧ l ≠ 1 ∧ G.lam l t = some (b, n)) ∧ v = .pointer (some ⟨b, o, none⟩) := by
  cases h with
  | data r => cases r
  | ptr l t off b n hl h1 hb => exact ⟨b, n, ⟨hl, h1, hb⟩, rfl⟩
theorem SRep.slc_inv {l t o sz len : Nat} (h : SRep G v (.slc l t o sz len)) : ∃ b n off cap, (l < G.lv ∧ l ≠ 1 ∧ G.lam l t = some (b, n)) ∧ (len ≤ cap ∧ cap ≤ maxLen) ∧ (cap = 0 ∨ (off = o ∧ o + cap * sz = n)) ∧ v = .slice (some ⟨b, off, none⟩) len cap := by
  cases h with
  | data r => cases r
  | slc l t off sz len b n off' cap hl h1 hb h2 h3 => exact ⟨b, n, off', cap, ⟨hl, h1, hb⟩, h2, h3, rfl⟩
theorem SRep.mref_inv {t : Nat} (h : SRep G v (.mref t)) : ∃ b n, G.lam 1 t = some (b, n) ∧ v = .map (some b) := by
  cases h with
  | data r => cases r
  | mref t b n hl hb => exact ⟨b, n, hb, rfl⟩
theorem SRep.iref_inv {t : Nat} (h : SRep G v (.iref t)) : ∃ b n, G.lam 1 t = some (b, n) ∧ v = .pointer (some ⟨b, 0, none⟩) := by
  cases h with
  | data r => cases r
  | iref t b n hl hb => exact ⟨b, n, hb, rfl⟩
theorem SRep.cptr_inv {cs : List V} (h : SRep G v (.cptr cs)) : ∃ b o vs, v = .pointer (some ⟨b, o, none⟩) ∧ (∀ c ∈ cs, okc c = true) ∧ (∀ i u, vs[i]? = some u → G.K b (o + i) = some u) ∧ RepL G.K vs cs := by
  cases h with | data r => cases r with | cptr b o vs cs h1 h2 h3 => exact ⟨b, o, vs, rfl, h1, h2, h3⟩
theorem SRep.agg_inv {cs : List V} (h : SRep G v (.agg cs)) : ∃ vs : List Value, v = .agg vs.toArray ∧ (∀ c ∈ cs, okc c = true) ∧ RepL G.K vs cs := by
  cases h with | data r => cases r with | agg vs cs h1 h2 => exact ⟨vs, rfl, h1, h2⟩
theorem SRep.tup_inv {cs : List V} (h : SRep G v (.tup cs)) : ∃ vs : List Value, v = .tuple vs.toArray ∧ SRepL G vs cs := by
  cases h with
  | data r => cases r
  | tup vs cs h1 => exact ⟨vs, rfl, h1⟩
theorem SRep.fptr_inv {n : Nat} (h : SRep G v (.fptr n)) : ∃ b, v = .pointer (some ⟨b, 0, none⟩) := by
  cases h with
  | data r => cases r
  | fptr b n => exact ⟨b, rfl⟩
theorem SRep.sagg_inv {cs : List V} (h : SRep G v (.sagg cs)) : ∃ vs : List Value, v = .agg vs.toArray ∧ (∀ c ∈ cs, sCell c = true) ∧ SRepL G vs cs := by
  cases h with
  | data r => cases r
  | sagg vs cs h1 h2 => exact ⟨vs, rfl, h1, h2⟩
theorem SRep.func_inv {fn : Fn} {f c : List V} (h : SRep G v (.func fn f c)) : ∃ f' c' : List Value, v = .func fn f'.toArray c'.toArray ∧ SRepL G f' f ∧ SRepL G c' c := by
  cases h with
  | data r => cases r; exact ⟨[], [], rfl, .nil, .nil⟩
  | func fn f' c' f c h1 h2 => exact ⟨f', c', rfl, h1, h2⟩
theorem Rep.list_inv {K : Know} {sz : Nat} {xs : List V} {o : Bool} (h : Rep K v (.list sz xs o)) : (xs = [] ∧ ∃ base cap, v = .slice base 0 cap ∧ (base = none → cap = 0)) ∨
    ∃ b off cap vs, v = .slice (some ⟨b, off, none⟩) xs.length cap ∧ xs.length ≤ cap ∧ (∀ x ∈ xs, x.cells.length = sz) ∧ (∀ c ∈ flat xs, okc c = true) ∧
      (∀ i u, vs[i]? = some u → K b (off + i) = some u) ∧ RepL K vs (flat xs) := by
  cases h with
  | lnil sz own => exact .inl ⟨rfl, none, 0, rfl, fun _ => rfl⟩
  | lemp a cap sz own => exact .inl ⟨rfl, some a, cap, rfl, fun h => by cases h⟩
  | list b off cap sz xs own vs h1 h2 h3 h4 h5 => exact .inr ⟨b, off, cap, vs, rfl, h1, h2, h3, h4, h5⟩
theorem SRep.list_inv {sz : Nat} {xs : List V} {o : Bool} (h : SRep G v (.list sz xs o)) : (xs = [] ∧ ∃ base cap, v = .slice base 0 cap ∧ (base = none → cap = 0)) ∨
    ∃ b off cap vs, v = .slice (some ⟨b, off, none⟩) xs.length cap ∧ xs.length ≤ cap ∧ (∀ x ∈ xs, x.cells.length = sz) ∧ (∀ c ∈ flat xs, okc c = true) ∧
      (∀ i u, vs[i]? = some u → G.K b (off + i) = some u) ∧ RepL G.K vs (flat xs) := by
  cases h with | data r => exact r.list_inv
theorem SRep.full_inv {sz : Nat} {xs : List V} (h : SRep G v (.full sz xs)) : (xs = [] ∧ v = .slice none 0 0) ∨
    ∃ b off vs, v = .slice (some ⟨b, off, none⟩) xs.length xs.length ∧ (∀ x ∈ xs, x.cells.length = sz) ∧ (∀ c ∈ flat xs, okc c = true) ∧
      (∀ i u, vs[i]? = some u → G.K b (off + i) = some u) ∧ RepL G.K vs (flat xs) := by
  cases h with
  | data r =>
    cases r with
    | fnil sz => exact .inl ⟨rfl, rfl⟩
    | full b off sz xs vs h2 h3 h4 h5 => exact .inr ⟨b, off, vs, rfl, h2, h3, h4, h5⟩
end inv

theorem SRepL.one {G : Gh} {vs : List Value} {x : V} (h : SRepL G vs [x]) : ∃ v, vs = [v] ∧ SRep G v x := by
  cases h with | cons r rs => cases rs; exact ⟨_, rfl, r⟩

theorem SRepL.one' {G : Gh} {v : Value} {xs : List V} (h : SRepL G [v] xs) : ∃ u, [u] = [v] ∧ ∃ x, xs = [x] ∧ SRep G u x := by
  cases h with | cons r rs => cases rs; exact ⟨_, rfl, _, rfl, r⟩

theorem SRepL.two {G : Gh} {v u : Value} {xs : List V} (h : SRepL G [v, u] xs) : ∃ x y, xs = [x, y] ∧ SRep G v x ∧ SRep G u y := by
  cases h with | cons r rs => cases rs with | cons q qs => cases qs; exact ⟨_, _, rfl, r, q⟩

/-! ### Rows of elements -/
theorem flat_append (xs ys : List V) : flat (xs ++ ys) = flat xs ++ flat ys := by
  induction xs with
  | nil => rfl
  | cons x r ih => simp [flat, ih]

theorem flat_length {sz : Nat} : ∀ {xs : List V}, (∀ x ∈ xs, x.cells.length = sz) → (flat xs).length = xs.length * sz
  | [], _ => by simp [flat]
  | x :: r, h => by
    simp only [flat, List.length_append, List.length_cons]
    rw [h x (by simp), flat_length (fun y hy => h y (by simp [hy])), Nat.add_mul]
    omega

theorem flat_drop {sz : Nat} : ∀ {xs : List V}, (∀ x ∈ xs, x.cells.length = sz) → ∀ n, (flat xs).drop (n * sz) = flat (xs.drop n)
  | [], _, n => by simp [flat]
  | x :: r, h, 0 => by simp
  | x :: r, h, n + 1 => by
    have hx := h x (by simp)
    simp only [flat, List.drop_succ_cons]
    rw [← flat_drop (fun y hy => h y (by simp [hy])) n]
    rw [show (n + 1) * sz = x.cells.length + n * sz by rw [hx, Nat.add_mul]; omega, ← List.drop_drop]
    simp

theorem flat_take {sz : Nat} : ∀ {xs : List V}, (∀ x ∈ xs, x.cells.length = sz) → ∀ n, (flat xs).take (n * sz) = flat (xs.take n)
  | [], _, n => by simp [flat]
  | x :: r, h, 0 => by simp [flat]
  | x :: r, h, n + 1 => by
    have hx := h x (by simp)
    simp only [flat, List.take_succ_cons]
    rw [← flat_take (fun y hy => h y (by simp [hy])) n]
    rw [show (n + 1) * sz = x.cells.length + n * sz by rw [hx, Nat.add_mul]; omega, List.take_length_add_append]

theorem flat_at {sz : Nat} {xs : List V} (h : ∀ x ∈ xs, x.cells.length = sz) {i : Nat} {x : V} (hx : xs[i]? = some x) :
    ((flat xs).drop (i * sz)).take sz = x.cells := by
  rw [flat_drop h]
  have hi : i < xs.length := (List.getElem?_eq_some_iff.1 hx).1
  have he : xs.drop i = x :: xs.drop (i + 1) := by
    rw [List.drop_eq_getElem_cons hi]
    congr 1
    exact (List.getElem?_eq_some_iff.1 hx).2
  rw [he]
  have hl := h x (List.mem_of_getElem? hx)
  simp only [flat]
  rw [← hl, List.take_left]

theorem mem_flat_of_mem {xs : List V} {x c : V} (hx : x ∈ xs) (hc : c ∈ x.cells) : c ∈ flat xs := by
  induction xs with
  | nil => cases hx
  | cons y r ih =>
    simp only [flat, List.mem_append]
    rcases List.mem_cons.1 hx with rfl | h
    · exact .inl hc
    · exact .inr (ih h)

theorem addr_add (b o n : Nat) : (⟨b, o, none⟩ : Addr).add n = ⟨b, o + n, none⟩ := by
  unfold Addr.add
  split
  · rename_i h; subst h; rfl
  · rfl

/-! ### What the operations of the evaluator claim of the model's -/
def repC : Value → V → Bool
  | .bool a, .bool b => a == b
  | .int k a, .int k' b => k == k' && a == b
  | .string a, .str b => a.data.toList == b
  | .float k a, .fl k' b => k == k' && a == b
  | .complex k a b, .cx k' c d => k == k' && a == c && b == d
  | .slice none n c, .list _ [] _ => n == 0 && c == 0
  | .slice none n c, .full _ [] => n == 0 && c == 0
  | .pointer none, .nilp => true
  | .nilFunc, .nilf => true
  | .map none, .mnil => true
  | .nilIface, .ifc true => true
  | .slice none n c, .nils _ => n == 0 && c == 0
  | .func fn f c, .func fn' f' c' => decide (fn = fn') && f.isEmpty && c.isEmpty && f'.isEmpty && c'.isEmpty
  | _, _ => false

theorem repC_sound {K : Know} {v : Value} {x : V} (h : repC v x = true) : Rep K v x := by
  unfold repC at h
  split at h
  · simp at h; subst h; exact .bool _
  · simp at h; obtain ⟨rfl, rfl⟩ := h; exact .int _ _
  · rename_i a b
    simp at h; subst h; exact .str _
  · simp at h; obtain ⟨rfl, rfl⟩ := h; exact .fl _ _
  · simp at h; obtain ⟨⟨rfl, rfl⟩, rfl⟩ := h; exact .cx _ _ _
  · simp at h; obtain ⟨rfl, rfl⟩ := h; exact .lnil _ _
  · simp at h; obtain ⟨rfl, rfl⟩ := h; exact .fnil _
  · exact .nilp
  · exact .nilf
  · exact .mnil
  · exact .ifnil
  · simp at h; obtain ⟨rfl, rfl⟩ := h; exact .nils _
  · simp at h
    obtain ⟨⟨⟨⟨rfl, rfl⟩, rfl⟩, rfl⟩, rfl⟩ := h
    exact .func _
  · cases h

def repCs : List Value → List V → Bool
  | [], [] => true
  | v :: vs, x :: xs => repC v x && okc x && repCs vs xs
  | _, _ => false

theorem repCs_sound {K : Know} : ∀ {vs : List Value} {xs : List V}, repCs vs xs = true → RepL K vs xs ∧ ∀ c ∈ xs, okc c = true
  | [], [], _ => ⟨.nil, by simp⟩
  | v :: vs, x :: xs, h => by
    simp only [repCs, Bool.and_eq_true] at h
    obtain ⟨h1, h2⟩ := repCs_sound (K := K) h.2
    refine ⟨.cons (repC_sound h.1.1) h1, fun c hc => ?_⟩
    rcases List.mem_cons.1 hc with rfl | hc
    · exact h.1.2
    · exact h2 c hc
  | [], _ :: _, h => by cases h
  | _ :: _, [], h => by cases h

def okArg : Operand → AArg → Bool
  | .tmp t, .t n => t == n
  | .tmp t, .k n => t == n
  | .const (.agg cs), .c (.agg xs) => repCs cs.toList xs
  | .const v, .c x => repC v x
  | .func f, .c (.func (.func f') [] []) => f == f'
  | _, _ => false

def okArgs : List Operand → List AArg → Bool
  | [], [] => true
  | x :: xs, a :: as => okArg x a && okArgs xs as
  | _, _ => false

/-- The operand's value in the frame is what the evaluator reads. -/
def ArgsRep (G : Gh) (ρ : Operand → Value) (e : Env) : Prop := ∀ t, SRep G (ρ (.tmp t)) (get e t)

theorem okArg_sound {G : Gh} {a : Act} {e : Env} (h : ∀ t, SRep G (a.tmps.getD t Go.undef) (get e t)) {x : Operand} {ar : AArg} (hk : okArg x ar = true) : SRep G (a.eval x) (readArg e ar) := by
  unfold okArg at hk
  split at hk
  · simp at hk; subst hk; exact (h _).strip
  · simp at hk; subst hk; exact h _
  · rename_i cs xs
    obtain ⟨h1, h2⟩ := repCs_sound (K := G.K) hk
    have := Rep.agg cs.toList xs h2 h1
    exact .data (by simpa [Act.eval, readArg] using this)
  · exact .data (repC_sound hk)
  · simp at hk; subst hk; exact .data (.func _)
  · cases hk

theorem okArgs_sound {G : Gh} {a : Act} {e : Env} (h : ∀ t, SRep G (a.tmps.getD t Go.undef) (get e t)) : ∀ {xs : List Operand} {as : List AArg}, okArgs xs as = true →
    SRepL G (xs.map a.eval) (as.map (readArg e))
  | [], [], _ => .nil
  | x :: xs, ar :: as, hk => by
    simp only [okArgs, Bool.and_eq_true] at hk
    exact .cons (okArg_sound h hk.1) (okArgs_sound h hk.2)
  | [], _ :: _, hk => by cases hk
  | _ :: _, [], hk => by cases hk

/-! ### One operation each -/
section ops
variable {P : Program} {G : Gh} {w : World}

theorem run_und {t : TypeId} {d : TypeDesc} (h : P.underlying t = some d) : (underlying t).run P w = .ok d w := by simp [underlying, program, Sem.run, h]
theorem run_info {t : TypeId} {d : TypeInfo} (h : P.info? t = some d) : (typeInfo t).run P w = .ok d w := by simp [typeInfo, program, Sem.run, h]

theorem toL (s : List UInt8) : (⟨s.toArray⟩ : ByteArray).toList = s := by rw [ByteArray.toList_eq]
theorem sizeL (s : List UInt8) : (⟨s.toArray⟩ : ByteArray).size = s.length := by simp [ByteArray.size]
theorem appL (a b : List UInt8) : (⟨a.toArray⟩ ++ ⟨b.toArray⟩ : ByteArray) = ⟨(a ++ b).toArray⟩ := by
  apply ByteArray.ext
  simp [ByteArray.data_append]

theorem s_add {t : TypeId} {x y : Operand} {a b : List UInt8} {r : V} (h : (if a.length + b.length ≤ 9223372036854775807 then some (V.str (a ++ b)) else none) = some r) :
    ∃ cv, (do eqGuard .add t x y (.string ⟨a.toArray⟩) (.string ⟨b.toArray⟩); binOp .add t (.string ⟨a.toArray⟩) (.string ⟨b.toArray⟩) : Sem Value).run P w = .ok cv w ∧ SRep G cv r := by
  by_cases hl : a.length + b.length ≤ 9223372036854775807
  · simp only [hl, if_true, Option.some.injEq] at h
    subst h
    refine ⟨.string ⟨(a ++ b).toArray⟩, ?_, .data (.str _)⟩
    have h1 : IntKind.i64.max = 9223372036854775807 := by decide
    have h2 : ¬ (((a.length + b.length : Nat) : Int) > IntKind.i64.max) := by rw [h1]; omega
    simp only [eqGuard, binOp, Op.stringOp, Sem.run_bind, sizeL, h2, if_false, appL]
    rfl
  · simp [hl] at h

theorem s_bin {op : BinOp} {t : TypeId} {x y : Operand} {a b : Value} {xs : List V} {r : V} (hs : SRepL G [a, b] xs) (h : rBin op xs = some r) :
    ∃ cv, (do eqGuard op t x y a b; binOp op t a b : Sem Value).run P w = .ok cv w ∧ SRep G cv r := by
  unfold rBin at h
  split at h
  · rename_i k a' k' b'
    cases hs with | cons ha hs => cases hs with | cons hb hs =>
    rw [ha.int_inv, hb.int_inv]
    split at h
    · rename_i hk; subst hk
      unfold intBin at h
      split at h <;> first
        | (injection h with h; subst h; exact ⟨_, by simp [eqGuard, binOp, Op.intArith, Op.intCmp]; rfl, .data (by first | exact .int _ _ | exact .bool _)⟩)
        | (by_cases hb0 : b' = 0
           · simp [hb0] at h
           · simp only [hb0, if_false, Option.some.injEq] at h
             subst h
             exact ⟨_, by simp [eqGuard, binOp, Op.intDiv, hb0] <;> rfl, .data (.int _ _)⟩)
        | cases h
    · cases h
  · rename_i a' b'
    cases hs with | cons ha hs => cases hs with | cons hb hs =>
    rw [ha.str_inv, hb.str_inv]
    unfold strBin at h
    split at h <;> first
      | (injection h with h; subst h; refine ⟨_, ?_, .data (.bool _)⟩; simp only [eqGuard, binOp, Op.stringOp, toL]; rfl)
      | (exact s_add h)
      | cases h
  · cases h

theorem s_pick {a b c : Value} {xs : List V} {r : V} (hs : SRepL G [c, a, b] xs) (h : rPick xs = some r) :
    ∃ cv, (do pure (.value (if ← asBool c then a else b)) : Sem Next).run P w = .ok (.value cv) w ∧ SRep G cv r := by
  unfold rPick at h
  split at h
  · rename_i t x y
    cases hs with | cons hc hs => cases hs with | cons ha hs => cases hs with | cons hb hs =>
    rw [hc.bool_inv]
    injection h with h
    subst h
    cases t
    · exact ⟨b, rfl, hb.strip⟩
    · exact ⟨a, rfl, ha.strip⟩
  · cases h

theorem s_not {a : Value} {xs : List V} {r : V} (hs : SRepL G [a] xs) (h : rNot xs = some r) : ∃ cv, (Op.unary .not a).run P w = .ok cv w ∧ SRep G cv r := by
  unfold rNot at h
  split at h
  · cases hs with | cons ha hs =>
    rw [ha.bool_inv]
    injection h with h; subst h
    exact ⟨_, rfl, .data (.bool _)⟩
  · cases h

theorem s_neg {a : Value} {xs : List V} {r : V} (hs : SRepL G [a] xs) (h : rNeg xs = some r) : ∃ cv, (Op.unary .neg a).run P w = .ok cv w ∧ SRep G cv r := by
  unfold rNeg at h
  split at h
  · cases hs with | cons ha hs =>
    rw [ha.int_inv]
    injection h with h; subst h
    exact ⟨_, rfl, .data (.int _ _)⟩
  · cases h

theorem run_equal_bool {t : TypeId} (ht : P.underlying t = some .bool) (p q : Bool) : (Op.equal t (.bool p) (.bool q)).run P w = .ok (p == q) w := by
  show (Op.equalIn (9999 + 1) t (.bool p) (.bool q)).run P w = _
  unfold Op.equalIn
  simp only [Sem.run_bind, run_und ht, Result.andThen_ok, Sem.run_pure]

theorem run_equal_nil {t e : TypeId} (ht : P.underlying t = some (.pointer e)) (p : Option Addr) : (Op.equal t (.pointer p) (.pointer none)).run P w = .ok p.isNone w := by
  show (Op.equalIn (9999 + 1) t (.pointer p) (.pointer none)).run P w = _
  unfold Op.equalIn
  cases p <;> simp only [Sem.run_bind, run_und ht, Result.andThen_ok, Sem.run_pure] <;> rfl

theorem s_beq {neg : Bool} {t : TypeId} {x y : Operand} {a b : Value} {xs : List V} {r : V} (ht : P.underlying t = some .bool) (hs : SRepL G [a, b] xs) (h : rBeq neg xs = some r) :
    ∃ cv, (do eqGuard (if neg then .neq else .eql) t x y a b; binOp (if neg then .neq else .eql) t a b : Sem Value).run P w = .ok cv w ∧ SRep G cv r := by
  unfold rBeq at h
  split at h
  · rename_i p q
    cases hs with | cons ha hs => cases hs with | cons hb hs =>
    rw [ha.bool_inv, hb.bool_inv]
    injection h with h; subst h
    cases neg
    · refine ⟨.bool (p == q), ?_, .data (by simpa using .bool _)⟩
      show ((do pure (.bool (← Op.equal t (.bool p) (.bool q))) : Sem Value)).run P w = _
      simp only [Sem.run_bind, run_equal_bool ht, Result.andThen_ok, Sem.run_pure]
    · refine ⟨.bool (!(p == q)), ?_, .data (by simpa using .bool _)⟩
      show ((do pure (.bool (!(← Op.equal t (.bool p) (.bool q)))) : Sem Value)).run P w = _
      simp only [Sem.run_bind, run_equal_bool ht, Result.andThen_ok, Sem.run_pure]
  · cases h

theorem s_isnil {neg : Bool} {t e : TypeId} {x y : Operand} {a : Value} {xs : List V} {r : V} (ht : P.underlying t = some (.pointer e)) (hs : SRepL G [a] xs) (h : rIsnil neg xs = some r) :
    ∃ cv, (do eqGuard (if neg then .neq else .eql) t x y a (.pointer none); binOp (if neg then .neq else .eql) t a (.pointer none) : Sem Value).run P w = .ok cv w ∧ SRep G cv r := by
  have key : ∀ (p : Option Addr), (do eqGuard (if neg then .neq else .eql) t x y (.pointer p) (.pointer none); binOp (if neg then .neq else .eql) t (.pointer p) (.pointer none) : Sem Value).run P w =
      .ok (.bool (neg ^^ p.isNone)) w := by
    intro p
    cases neg
    · show ((do pure (.bool (← Op.equal t (.pointer p) (.pointer none))) : Sem Value)).run P w = _
      simp only [Sem.run_bind, run_equal_nil ht, Result.andThen_ok, Sem.run_pure, Bool.false_bne]
    · show ((do pure (.bool (!(← Op.equal t (.pointer p) (.pointer none)))) : Sem Value)).run P w = _
      simp only [Sem.run_bind, run_equal_nil ht, Result.andThen_ok, Sem.run_pure, Bool.true_bne]
  unfold rIsnil at h
  split at h
  · cases hs with | cons ha hs =>
    rw [ha.nilp_inv]
    injection h with h; subst h
    exact ⟨_, key none, .data (.bool _)⟩
  · cases hs with | cons ha hs =>
    obtain ⟨b, _, _, rfl⟩ := ha.ptr_inv
    injection h with h; subst h
    exact ⟨_, key _, .data (.bool _)⟩
  · cases hs with | cons ha hs =>
    obtain ⟨b, o, vs, rfl, _⟩ := ha.cptr_inv
    injection h with h; subst h
    exact ⟨_, key _, .data (.bool _)⟩
  · cases h

theorem SRep.ifc_inv {v : Value} {b : Bool} (h : SRep G v (.ifc b)) : (b = true ∧ v = .nilIface) ∨ (b = false ∧ ∃ t u, v = .iface t u) := by
  cases h with
  | data r => cases r with
    | ifnil => exact .inl ⟨rfl, rfl⟩
    | iface t u => exact .inr ⟨rfl, t, u, rfl⟩

theorem s_isifc {neg : Bool} {t : TypeId} {ms : Array (String × TypeId)} {x : Operand} {a : Value} {xs : List V} {r : V} (ht : P.underlying t = some (.interface ms)) (hs : SRepL G [a] xs) (h : rIsifc neg xs = some r) :
    ∃ cv, (do eqGuard (if neg then .neq else .eql) t x (.const .nilIface) a .nilIface; binOp (if neg then .neq else .eql) t a .nilIface : Sem Value).run P w = .ok cv w ∧ SRep G cv r := by
  unfold rIsifc at h
  split at h
  · injection h with h; subst h
    cases hs with | cons ha hs =>
    have he : ∀ (v : Value) (c : Bool), (Op.equal t v .nilIface).run P w = .ok c w → (binOp (if neg then .neq else .eql) t v .nilIface).run P w = .ok (.bool (neg ^^ c)) w → ∃ cv, (do eqGuard (if neg then .neq else .eql) t x (.const .nilIface) v .nilIface; binOp (if neg then .neq else .eql) t v .nilIface : Sem Value).run P w = .ok cv w ∧ SRep G cv (.bool (neg ^^ c)) := by
      intro v c _ h2
      have hg : (eqGuard (if neg then .neq else .eql) t x (.const .nilIface) v .nilIface).run P w = .ok () w := by
        cases neg <;> cases v <;> simp [eqGuard]
      refine ⟨.bool (neg ^^ c), ?_, .data (.bool _)⟩
      simp only [Sem.run_bind, hg, Result.andThen_ok, h2]
    rcases ha.ifc_inv with ⟨rfl, rfl⟩ | ⟨rfl, u, v', rfl⟩
    · have e1 : (Op.equal t .nilIface .nilIface).run P w = .ok true w := by
        show (Op.equalIn (9999 + 1) t .nilIface .nilIface).run P w = _
        unfold Op.equalIn
        simp only [Sem.run_bind, run_und ht, Result.andThen_ok, Sem.run_pure]
      refine he _ _ e1 ?_
      cases neg
      · show ((do pure (.bool (← Op.equal t .nilIface .nilIface)) : Sem Value)).run P w = _
        simp only [Sem.run_bind, e1, Result.andThen_ok, Sem.run_pure, Bool.false_bne]
      · show ((do pure (.bool (!(← Op.equal t .nilIface .nilIface))) : Sem Value)).run P w = _
        simp only [Sem.run_bind, e1, Result.andThen_ok, Sem.run_pure, Bool.true_bne]
    · have e1 : (Op.equal t (.iface u v') .nilIface).run P w = .ok false w := by
        show (Op.equalIn (9999 + 1) t (.iface u v') .nilIface).run P w = _
        unfold Op.equalIn
        simp only [Sem.run_bind, run_und ht, Result.andThen_ok, Sem.run_pure]
      refine he _ _ e1 ?_
      cases neg
      · show ((do pure (.bool (← Op.equal t (.iface u v') .nilIface)) : Sem Value)).run P w = _
        simp only [Sem.run_bind, e1, Result.andThen_ok, Sem.run_pure, Bool.false_bne]
      · show ((do pure (.bool (!(← Op.equal t (.iface u v') .nilIface))) : Sem Value)).run P w = _
        simp only [Sem.run_bind, e1, Result.andThen_ok, Sem.run_pure, Bool.true_bne]
  · cases h

theorem run_equal_nils {t e : TypeId} (ht : P.underlying t = some (.slice e)) (b : Option Addr) (n c : Nat) : (Op.equal t (.slice b n c) (.slice none 0 0)).run P w = .ok b.isNone w := by
  show (Op.equalIn (9999 + 1) t (.slice b n c) (.slice none 0 0)).run P w = _
  unfold Op.equalIn
  cases b <;> simp only [Sem.run_bind, run_und ht, Result.andThen_ok, Sem.run_pure] <;> rfl

theorem s_isnils {neg : Bool} {t e : TypeId} {x y : Operand} {a : Value} {xs : List V} {r : V} (ht : P.underlying t = some (.slice e)) (hs : SRepL G [a] xs) (h : rIsnils neg xs = some r) :
    ∃ cv, (do eqGuard (if neg then .neq else .eql) t x y a (.slice none 0 0); binOp (if neg then .neq else .eql) t a (.slice none 0 0) : Sem Value).run P w = .ok cv w ∧ SRep G cv r := by
  have key : ∀ (b : Option Addr) (n c : Nat), (do eqGuard (if neg then .neq else .eql) t x y (.slice b n c) (.slice none 0 0); binOp (if neg then .neq else .eql) t (.slice b n c) (.slice none 0 0) : Sem Value).run P w = .ok (.bool (neg ^^ b.isNone)) w := by
    intro b n c
    have hg : (eqGuard (if neg then .neq else .eql) t x y (.slice b n c) (.slice none 0 0)).run P w = .ok () w := by
      cases neg <;> simp [eqGuard]
    simp only [Sem.run_bind, hg, Result.andThen_ok]
    cases neg
    · show ((do pure (.bool (← Op.equal t (.slice b n c) (.slice none 0 0))) : Sem Value)).run P w = _
      simp only [Sem.run_bind, run_equal_nils ht, Result.andThen_ok, Sem.run_pure, Bool.false_bne]
    · show ((do pure (.bool (!(← Op.equal t (.slice b n c) (.slice none 0 0)))) : Sem Value)).run P w = _
      simp only [Sem.run_bind, run_equal_nils ht, Result.andThen_ok, Sem.run_pure, Bool.true_bne]
  unfold rIsnils at h
  split at h
  · cases hs with | cons ha hs =>
    injection h with h; subst h
    cases ha with | data q => cases q; exact ⟨_, key none 0 0, .data (.bool _)⟩
  · cases hs with | cons ha hs =>
    injection h with h; subst h
    cases ha with | data q => cases q; exact ⟨_, key (some _) _ _, .data (.bool _)⟩
  · cases hs with | cons ha hs =>
    injection h with h; subst h
    rcases ha.list_inv with ⟨h0, _⟩ | ⟨b', off, cap, vs, rfl, _⟩
    · cases h0
    · exact ⟨_, key (some _) _ _, .data (.bool _)⟩
  · cases h

theorem idxOk_iff {i : Int} {n : Nat} : idxOk i n = true ↔ 0 ≤ i ∧ i < (n : Int) := by simp [idxOk]

theorem s_sidx {t : TypeId} {a b : Value} {xs : List V} {r : V} (ht : P.underlying t = some .string) (hs : SRepL G [a, b] xs) (h : rSidx xs = some r) :
    ∃ cv, (Instr.index t a b).run P w = .ok cv w ∧ SRep G cv r := by
  unfold rSidx at h
  split at h
  · rename_i s k i
    cases hs with | cons ha hs => cases hs with | cons hb hs =>
    rw [ha.str_inv, hb.int_inv]
    split at h
    · rename_i hi
      obtain ⟨h0, h1⟩ := idxOk_iff.1 hi
      obtain ⟨j, rfl⟩ : ∃ j : Nat, i = j := ⟨i.toNat, by omega⟩
      have hj : j < s.length := by omega
      simp only [Int.toNat_natCast, List.getElem?_eq_getElem hj, Option.map_some, Option.some.injEq] at h
      subst h
      refine ⟨_, ?_, .data (.int _ _)⟩
      have hg : (⟨s.toArray⟩ : ByteArray)[j]? = some s[j] := by
        rw [getElem?_pos _ _ (by simpa [ByteArray.size] using hj)]
        rfl
      simp [Instr.index, asIntOf, run_und ht, hg]
    · cases h
  · cases h

theorem RepL.okc_take {cs : List V} (h : ∀ c ∈ cs, okc c = true) (n : Nat) : ∀ c ∈ cs.take n, okc c = true := fun c hc => h c (List.mem_of_mem_take hc)
theorem RepL.okc_drop {cs : List V} (h : ∀ c ∈ cs, okc c = true) (n : Nat) : ∀ c ∈ cs.drop n, okc c = true := fun c hc => h c (List.mem_of_mem_drop hc)

/-- How many cells a variable of a struct's or an array's type has; none: it is one cell. -/
def aggN (d : TypeDesc) (n : Nat) : Option Nat :=
  match d with
  | .struct _ | .array _ _ => some n
  | _ => none

theorem isAgg_no {t : TypeId} {d : TypeDesc} {n : Nat} (hd : P.underlying t = some d) (hn : none = aggN d n) : (isAgg t).run P w = .ok false w := by
  simp only [isAgg, Sem.run_bind, run_und hd, Result.andThen_ok]
  cases d <;> first | rfl | (simp [aggN] at hn)
theorem isAgg_yes {t : TypeId} {d : TypeDesc} {n k : Nat} (hd : P.underlying t = some d) (hn : some k = aggN d n) : (isAgg t).run P w = .ok true w ∧ k = n := by
  simp only [isAgg, Sem.run_bind, run_und hd, Result.andThen_ok]
  cases d <;> first | (exact ⟨rfl, by simpa [aggN] using hn⟩) | (simp [aggN] at hn)

/-- Part of a row of cells. -/
theorem s_part {t : TypeId} {i : TypeInfo} {cs : List Value} {vs : List V} {off : Nat} {n : Option Nat} {r : V} (hi : P.info? t = some i) (d : TypeDesc) (hd : P.underlying t = some d)
    (hn : n = aggN d i.size) (hok : ∀ c ∈ vs, okc c = true) (hr : RepL G.K cs vs) (h : loadV n (vs.drop off) = some r) :
    ∃ cv, (part t cs.toArray off).run P w = .ok cv w ∧ SRep G cv r := by
  unfold loadV at h
  split at h
  · split at h
    · rename_i c rest he
      injection h with h; subst h
      have hx : vs[off]? = some c := by
        have := congrArg (fun l => l[0]?) he
        simpa using this
      obtain ⟨u, hu, hru⟩ := hr.get hx
      refine ⟨u, ?_, .data hru.strip⟩
      have hag : (isAgg t).run P w = .ok false w := isAgg_no hd hn
      simp [part, hag, hu]
    · cases h
  · rename_i k
    split at h
    · rename_i hk
      injection h with h; subst h
      obtain ⟨hag, hke⟩ := isAgg_yes (P := P) (w := w) hd hn
      have hsz : (sizeOf t).run P w = .ok i.size w := by simp [sizeOf, run_info hi]
      subst hke
      refine ⟨.agg ((cs.drop off).take i.size).toArray, ?_, .data (.agg _ _ (RepL.okc_take (RepL.okc_drop hok _) _) ((hr.drop _).take _))⟩
      simp only [part, Sem.run_bind, hag, Result.andThen_ok, if_true, hsz, Sem.run_pure]
      congr 2
      rw [List.extract_toArray, List.extract_eq_take_drop]
      congr 2
      omega
    · cases h

theorem s_fld {t ft : TypeId} {fs : Array Field} {f : Field} {fi off : Nat} {i : TypeInfo} {d : TypeDesc} {n : Option Nat} {a : Value} {xs : List V} {r : V} (ht : P.underlying t = some (.struct fs)) (hf : fs[fi]? = some f)
    (hft : f.type = ft) (hfo : f.offset = off) (hi : P.info? ft = some i) (hd : P.underlying ft = some d) (hn : n = aggN d i.size)
    (hs : SRepL G [a] xs) (h : rFld off n xs = some r) : ∃ cv, (Instr.field t a fi).run P w = .ok cv w ∧ SRep G cv r := by
  unfold rFld at h
  split at h
  · cases hs with | cons ha hs =>
    obtain ⟨vs, rfl, hok, hr⟩ := ha.agg_inv
    obtain ⟨cv, h1, h2⟩ := s_part (P := P) (w := w) hi d hd hn hok hr h
    refine ⟨cv, ?_, h2⟩
    subst hft hfo
    simp [Instr.field, run_und ht, hf, asAgg, h1]
  · cases h

theorem s_aidx {t e : TypeId} {n sz : Nat} {ag : Bool} {i : TypeInfo} {d : TypeDesc} {a b : Value} {xs : List V} {r : V} (ht : P.underlying t = some (.array n e)) (hi : P.info? e = some i) (hsz : i.size = sz)
    (hd : P.underlying e = some d) (hag : ag = (aggN d 0).isSome) (h1 : ag = false → sz = 1)
    (hs : SRepL G [a, b] xs) (h : rAidx n sz ag xs = some r) : ∃ cv, (Instr.index t a b).run P w = .ok cv w ∧ SRep G cv r := by
  unfold rAidx at h
  split at h
  · rename_i cs k j
    cases hs with | cons ha hs => cases hs with | cons hb hs =>
    obtain ⟨vs, rfl, hok, hr⟩ := ha.agg_inv
    rw [hb.int_inv]
    split at h
    · rename_i hj
      obtain ⟨hj, hl⟩ := hj
      obtain ⟨h0, h2⟩ := idxOk_iff.1 hj
      obtain ⟨m, rfl⟩ : ∃ m : Nat, j = m := ⟨j.toNat, by omega⟩
      have hm : m < n := by omega
      simp only [Int.toNat_natCast] at h
      have hload : loadV (if ag then some sz else none) (cs.drop (m * sz)) = some r := by
        cases ag with
        | true =>
          simp only [if_true] at h ⊢
          unfold loadV
          have : sz ≤ (cs.drop (m * sz)).length := by
            rw [List.length_drop]
            have := Nat.mul_le_mul_right sz (show m + 1 ≤ n by omega)
            rw [Nat.add_mul] at this
            omega
          simp only [this, if_true]
          exact h
        | false =>
          simp only [Bool.false_eq_true, if_false] at h ⊢
          unfold loadV
          cases hc : cs[m * sz]? with
          | none => simp [hc] at h
          | some c =>
            simp [hc] at h
            have hlt : m * sz < cs.length := (List.getElem?_eq_some_iff.1 hc).1
            rw [List.drop_eq_getElem_cons hlt]
            have := (List.getElem?_eq_some_iff.1 hc).2
            simp [this, h]
      obtain ⟨cv, h3, h4⟩ := s_part (P := P) (w := w) hi d hd (n := if ag then some sz else none) (by subst hag; subst hsz; cases d <;> rfl) hok hr hload
      refine ⟨cv, ?_, h4⟩
      have hz : (sizeOf e).run P w = .ok sz w := by simp [sizeOf, run_info hi, hsz]
      simp only [Instr.index, asIntOf, Sem.run_bind, Sem.run_pure, Result.andThen_ok, run_und ht]
      rw [if_pos ⟨by omega, by omega⟩]
      simp [hz, h3]
    · cases h
  · cases h

theorem s_iaddr {t e : TypeId} {sz : Nat} {i : TypeInfo} {a b : Value} {xs : List V} {r : V} (ht : P.underlying t = some (.slice e)) (hi : P.info? e = some i) (hsz : i.size = sz)
    (hs : SRepL G [a, b] xs) (h : rIaddr sz xs = some r) : ∃ cv, (Instr.indexAt t a b).run P w = .ok cv w ∧ SRep G cv r := by
  unfold rIaddr at h
  split at h
  · rename_i sz' ys own k j
    cases hs with | cons ha hs => cases hs with | cons hb hs =>
    rw [hb.int_inv]
    split at h
    · rename_i hj
      obtain ⟨rfl, hj⟩ := hj
      obtain ⟨h0, h2⟩ := idxOk_iff.1 hj
      obtain ⟨m, rfl⟩ : ∃ m : Nat, j = m := ⟨j.toNat, by omega⟩
      have hm : m < ys.length := by omega
      simp only [Int.toNat_natCast, List.getElem?_eq_getElem hm, Option.map_some, Option.some.injEq] at h
      subst h
      rcases ha.list_inv with ⟨rfl, _⟩ | ⟨b', off, cap, vs, rfl, hc, hl, hok, hK, hr⟩
      · simp at hm
      · refine ⟨.pointer (some ⟨b', off + m * sz, none⟩), ?_, .data (.cptr b' (off + m * sz) ((vs.drop (m * sz)).take sz) _ ?_ ?_ ?_)⟩
        · have hz : (sizeOf e).run P w = .ok sz w := by simp [sizeOf, run_info hi, hsz]
          simp only [Instr.indexAt, asIntOf, Sem.run_bind, Sem.run_pure, Result.andThen_ok, run_und ht]
          rw [if_pos ⟨by omega, by omega⟩]
          simp [hz, addr_add]
        · exact fun c hcc => hok c (mem_flat_of_mem (List.getElem_mem hm) hcc)
        · intro q u hu
          rw [List.getElem?_take] at hu
          split at hu
          · rw [List.getElem?_drop] at hu
            have := hK _ _ hu
            rw [Nat.add_assoc]; exact this
          · cases hu
        · have := ((hr.drop (m * sz)).take sz)
          rwa [flat_at hl (List.getElem?_eq_getElem hm)] at this
    · cases h
  · rename_i l t' o sz' n k j
    cases hs with | cons ha hs => cases hs with | cons hb hs =>
    rw [hb.int_inv]
    split at h
    · rename_i hj
      obtain ⟨rfl, hj⟩ := hj
      obtain ⟨h0, h2⟩ := idxOk_iff.1 hj
      obtain ⟨m, rfl⟩ : ∃ m : Nat, j = m := ⟨j.toNat, by omega⟩
      injection h with h; subst h
      obtain ⟨bb, nn, off, cap, ⟨g1, g2, g3⟩, hlc, hcap, rfl⟩ := ha.slc_inv
      rcases hcap with rfl | ⟨rfl, _⟩
      · exfalso; omega
      · refine ⟨_, ?_, .ptr l t' _ bb nn g1 g2 g3⟩
        have hz : (sizeOf e).run P w = .ok sz w := by simp [sizeOf, run_info hi, hsz]
        simp only [Instr.indexAt, asIntOf, Sem.run_bind, Sem.run_pure, Result.andThen_ok, run_und ht]
        rw [if_pos ⟨by omega, by omega⟩]
        simp [hz, addr_add]
    · cases h
  · cases h

theorem s_iaddra {t e : TypeId} {n sz : Nat} {i : TypeInfo} {a b : Value} {xs : List V} {r : V} (ht : P.underlying t = some (.array n e)) (hi : P.info? e = some i) (hsz : i.size = sz)
    (hs : SRepL G [a, b] xs) (h : rIaddra n sz xs = some r) : ∃ cv, (Instr.indexAt t a b).run P w = .ok cv w ∧ SRep G cv r := by
  have hz : (sizeOf e).run P w = .ok sz w := by simp [sizeOf, run_info hi, hsz]
  have key : ∀ b o k (m : Nat), m < n → (Instr.indexAt t (.pointer (some ⟨b, o, none⟩)) (.int k (m : Int))).run P w = .ok (.pointer (some ⟨b, o + m * sz, none⟩)) w := by
    intro b o k m hm
    simp only [Instr.indexAt, asIntOf, Sem.run_bind, Sem.run_pure, Result.andThen_ok, run_und ht, Instr.sureAddr]
    rw [if_pos ⟨by omega, by omega⟩]
    simp [hz, addr_add]
  unfold rIaddra at h
  split at h
  · rename_i cs k j
    cases hs with | cons ha hs => cases hs with | cons hb hs =>
    rw [hb.int_inv]
    obtain ⟨bb, o, vs, rfl, hok, hK, hr⟩ := ha.cptr_inv
    split at h
    · rename_i hj
      obtain ⟨h0, h2⟩ := idxOk_iff.1 hj
      obtain ⟨m, rfl⟩ : ∃ m : Nat, j = m := ⟨j.toNat, by omega⟩
      injection h with h; subst h
      refine ⟨_, key bb o k m (by omega), .data (.cptr bb (o + m * sz) (vs.drop (m * sz)) _ (RepL.okc_drop hok _) ?_ (hr.drop _))⟩
      intro q u hu
      rw [List.getElem?_drop] at hu
      rw [Nat.add_assoc]; exact hK _ _ hu
    · cases h
  · rename_i l k' o k j
    cases hs with | cons ha hs => cases hs with | cons hb hs =>
    rw [hb.int_inv]
    obtain ⟨bb, nn, hbb, rfl⟩ := ha.ptr_inv
    split at h
    · rename_i hj
      obtain ⟨h0, h2⟩ := idxOk_iff.1 hj
      obtain ⟨m, rfl⟩ : ∃ m : Nat, j = m := ⟨j.toNat, by omega⟩
      injection h with h; subst h
      exact ⟨_, key bb o k m (by omega), .ptr l k' _ bb nn hbb.1 hbb.2.1 hbb.2.2⟩
    · cases h
  · cases h

theorem s_faddr {t : TypeId} {fs : Array Field} {f : Field} {fi off : Nat} {i : TypeInfo} {a : Value} {xs : List V} {r : V} (ht : P.underlying t = some (.struct fs)) (hf : fs[fi]? = some f)
    (hfo : f.offset = off) (hi : P.info? f.type = some i) (hz : i.size ≠ 0) (hs : SRepL G [a] xs) (h : rFaddr off xs = some r) :
    ∃ cv, (Instr.fieldAt t a fi).run P w = .ok cv w ∧ SRep G cv r := by
  have key : ∀ b o, (Instr.fieldAt t (.pointer (some ⟨b, o, none⟩)) fi).run P w = .ok (.pointer (some ⟨b, o + off, none⟩)) w := by
    intro b o
    subst hfo
    have hsz : (sizeOf f.type).run P w = .ok i.size w := by simp [sizeOf, run_info hi]
    simp [Instr.fieldAt, run_und ht, hf, Instr.sureAddr, fieldPlace, hsz, hz, addr_add]
  unfold rFaddr at h
  split at h
  · cases hs with | cons ha hs =>
    obtain ⟨b, o, vs, rfl, hok, hK, hr⟩ := ha.cptr_inv
    injection h with h; subst h
    refine ⟨_, key b o, .data (.cptr b (o + off) (vs.drop off) _ (RepL.okc_drop hok _) ?_ (hr.drop _))⟩
    intro q u hu
    rw [List.getElem?_drop] at hu
    rw [Nat.add_assoc]; exact hK _ _ hu
  · rename_i l k o
    cases hs with | cons ha hs =>
    obtain ⟨b, n, hb, rfl⟩ := ha.ptr_inv
    injection h with h; subst h
    exact ⟨_, key b o, .ptr l k _ b n hb.1 hb.2.1 hb.2.2⟩
  · cases h

theorem run_loadCells {w : World} {b o : Nat} : ∀ (vs : List Value) (k : Nat) (acc : Array Value), (∀ i u, vs[i]? = some u → w.cell? ⟨b, o + (k + i), none⟩ = some u) →
    (loadCellsFrom ⟨b, o, none⟩ k vs.length acc).run P w = .ok (acc ++ vs.toArray) w
  | [], k, acc, _ => by simp [loadCellsFrom]
  | v :: vs, k, acc, h => by
    have h0 := h 0 v rfl
    have := run_loadCells vs (k + 1) (acc.push v) (fun i u hu => by
      have := h (i + 1) u (by simpa using hu)
      rw [show k + 1 + i = k + (i + 1) by omega]; exact this)
    simp only [List.length_cons, loadCellsFrom, Sem.run_bind, run_load, addr_add]
    simp only [Nat.add_zero] at h0
    rw [h0]
    simp only [Result.andThen_ok, this]
    simp

/-- A variable read at a place whose cells are known. -/
theorem s_loadAt {t : TypeId} {i : TypeInfo} {d : TypeDesc} {n : Option Nat} {b o : Nat} {vs : List Value} {cs : List V} {r : V} (hi : P.info? t = some i) (hd : P.underlying t = some d)
    (hn : n = aggN d i.size) (hK : ∀ i u, vs[i]? = some u → w.cell? ⟨b, o + i, none⟩ = some u)
    (hr : SRepL G vs cs) (h : loadV n cs = some r) (hok : n ≠ none → ∀ c ∈ cs, okc c = true) :
    ∃ cv, (Instr.loadAt t (.pointer (some ⟨b, o, none⟩))).run P w = .ok cv w ∧ SRep G cv r := by
  unfold loadV at h
  split at h
  · split at h
    · rename_i c rest
      injection h with h; subst h
      cases hr with | cons hc hr =>
      rename_i v vs
      refine ⟨v, ?_, hc.strip⟩
      have hag : (isAgg t).run P w = .ok false w := isAgg_no hd hn
      have := hK 0 v rfl
      simp only [Nat.add_zero] at this
      simp only [Instr.loadAt, Instr.sureAddr, Sem.run_bind, Sem.run_pure, Result.andThen_ok, loadVar, hag, Bool.false_eq_true, if_false, run_load, this]
    · cases h
  · rename_i k
    split at h
    · rename_i hk
      injection h with h; subst h
      obtain ⟨hag, hke⟩ := isAgg_yes (P := P) (w := w) hd hn
      have hsz : (sizeOf t).run P w = .ok i.size w := by simp [sizeOf, run_info hi]
      have hrl := hr.length
      have hl : (vs.take k).length = k := by rw [List.length_take]; omega
      have hload := run_loadCells (P := P) (w := w) (b := b) (o := o) (vs.take k) 0 #[] (fun i u hu => by
        rw [List.getElem?_take] at hu
        split at hu
        · simpa using hK i u hu
        · cases hu)
      rw [hl] at hload
      have hok' := hok (by simp)
      have hrep : RepL G.K (vs.take k) (cs.take k) := by
        have := hr.take k
        clear hload
        have hok2 : ∀ c ∈ cs.take k, isLocal c = false := fun c hc => by
          have := hok' c (List.mem_of_mem_take hc)
          simp only [okc, Bool.and_eq_true, Bool.not_eq_true'] at this
          exact this.1.2
        revert this hok2
        generalize vs.take k = a
        generalize cs.take k = b
        intro hab
        induction hab using SRepL.rec (motive_1 := fun _ _ _ => True) with
        | nil => intro _; exact .nil
        | cons h1 h2 _ ih => intro hh; exact .cons (h1.toRep (hh _ (by simp))) (ih (fun c hc => hh c (by simp [hc])))
        | data => trivial
        | ptr => trivial
        | func => trivial
        | slc => trivial
        | mref => trivial
        | iref => trivial
        | tup => trivial
        | sagg => trivial
        | fptr => trivial
      refine ⟨.agg (vs.take k).toArray, ?_, .data (.agg _ _ (RepL.okc_take hok' k) hrep)⟩
      subst hke
      simp only [Instr.loadAt, Instr.sureAddr, Sem.run_bind, Sem.run_pure, Result.andThen_ok, loadVar, hag, if_true, hsz, loadCells, hload]
      simp
    · cases h

theorem RepL.toS {G : Gh} : ∀ {vs : List Value} {xs : List V}, RepL G.K vs xs → SRepL G vs xs
  | _, _, .nil => .nil
  | _, _, .cons r rs => .cons (.data r) (RepL.toS rs)

theorem s_load {t : TypeId} {i : TypeInfo} {d : TypeDesc} {n : Option Nat} {M : Mem} {a : Value} {xs : List V} {r : V} (hI : Inv G w M) (hi : P.info? t = some i) (hd : P.underlying t = some d)
    (hn : n = aggN d i.size) (hs : SRepL G [a] xs) (h : rLoad n xs = some r) :
    ∃ cv, (Instr.loadAt t a).run P w = .ok cv w ∧ SRep G cv r := by
  unfold rLoad at h
  split at h
  · cases hs with | cons ha hs =>
    obtain ⟨b, o, vs, rfl, hok, hK, hr⟩ := ha.cptr_inv
    exact s_loadAt hi hd hn (fun i u hu => hI.kh _ _ _ (hK i u hu)) hr.toS h (fun _ => hok)
  · cases h

theorem bounds_run {isS : Bool} {len cap : Nat} {lo hi : Option Value} {l : List Value} {xs : List V} {lo' hi' : Bool} {a b : Nat} (hlo : lo'= lo.isSome) (hhi : hi' = hi.isSome)
    (hl : l = lo.toList ++ hi.toList) (hs : SRepL G l xs) (h : bounds len len lo' hi' xs = some (a, b)) (hlc : len ≤ cap) :
    (Instr.sliceBounds isS len cap lo hi none).run P w = .ok (a, b, cap) w ∧ a ≤ b ∧ b ≤ len := by
  subst hlo hhi hl
  cases lo <;> cases hi <;> simp only [Option.isSome_none, Option.isSome_some, Option.toList_none, Option.toList_some, List.nil_append, List.append_nil, List.singleton_append] at hs h
  · cases hs
    simp only [bounds, Option.some.injEq, Prod.mk.injEq] at h
    obtain ⟨rfl, rfl⟩ := h
    exact ⟨by simp [Instr.sliceBounds], by omega, by omega⟩
  · obtain ⟨v, hv, hb⟩ := hs.one'
    obtain ⟨x, rfl, hb⟩ := hb
    injection hv with hv _
    subst hv
    cases x <;> simp only [bounds] at h <;> try (cases h; done)
    rename_i k n
    split at h
    · rename_i hh
      injection h with h
      simp only [Prod.mk.injEq] at h
      obtain ⟨rfl, rfl⟩ := h
      rw [hb.int_inv]
      refine ⟨?_, by omega, by omega⟩
      simp only [Instr.sliceBounds, Sem.run_bind, Sem.run_pure, Result.andThen_ok, Instr.sliceBound, asIntOf]
      rw [Sem.run_ite, if_pos ⟨by omega, by omega⟩]
      simp
    · cases h
  · obtain ⟨v, hv, hb⟩ := hs.one'
    obtain ⟨x, rfl, hb⟩ := hb
    injection hv with hv _
    subst hv
    cases x <;> simp only [bounds] at h <;> try (cases h; done)
    rename_i k n
    split at h
    · rename_i hh
      injection h with h
      simp only [Prod.mk.injEq] at h
      obtain ⟨rfl, rfl⟩ := h
      rw [hb.int_inv]
      refine ⟨?_, by omega, by omega⟩
      simp only [Instr.sliceBounds, Sem.run_bind, Sem.run_pure, Result.andThen_ok, Instr.sliceBound, asIntOf]
      rw [Sem.run_ite, if_pos ⟨by omega, by omega⟩]
      simp
    · cases h
  · obtain ⟨x, y, rfl, ha, hb⟩ := hs.two
    cases x <;> cases y <;> simp only [bounds] at h <;> try (cases h; done)
    rename_i k n k' n'
    split at h
    · rename_i hh
      injection h with h
      simp only [Prod.mk.injEq] at h
      obtain ⟨rfl, rfl⟩ := h
      rw [ha.int_inv, hb.int_inv]
      refine ⟨?_, by omega, by omega⟩
      simp only [Instr.sliceBounds, Sem.run_bind, Sem.run_pure, Result.andThen_ok, Instr.sliceBound, asIntOf]
      rw [Sem.run_ite, if_pos ⟨by omega, by omega⟩]
      simp only [Sem.run_pure, Result.andThen_ok]
      rw [Sem.run_ite, if_pos ⟨by omega, by omega⟩]
      simp
    · cases h

theorem s_ssl {t : TypeId} {a : Value} {lo hi : Option Value} {lo' hi' : Bool} {xs : List V} {r : V} (ht : P.underlying t = some .string) (hlo : lo' = lo.isSome) (hhi : hi' = hi.isSome)
    (hs : SRepL G (a :: (lo.toList ++ hi.toList)) xs) (h : rSsl lo' hi' xs = some r) : ∃ cv, (Instr.sliceAt t a lo hi none).run P w = .ok cv w ∧ SRep G cv r := by
  unfold rSsl at h
  split at h
  · rename_i s rest
    cases hs with | cons ha hs =>
    rw [ha.str_inv]
    cases hb : bounds s.length s.length lo' hi' rest with
    | none => simp [hb] at h
    | some p =>
      obtain ⟨x, y⟩ := p
      simp only [hb, Option.map_some, Option.some.injEq] at h
      subst h
      obtain ⟨h1, h2, h3⟩ := bounds_run (P := P) (w := w) (isS := false) hlo hhi rfl hs hb (Nat.le_refl _)
      refine ⟨.string ⟨((s.take y).drop x).toArray⟩, ?_, .data (.str _)⟩
      simp only [Instr.sliceAt, Instr.slice, Sem.run_bind, run_und ht, Result.andThen_ok, sizeL, h1, Sem.run_pure, Option.isSome_none, Bool.false_eq_true, if_false]
      congr 2
      apply ByteArray.ext
      simp [ByteArray.data_extract, List.drop_take]
  · cases h

theorem s_slen {t ty : TypeId} {a : Value} {xs : List V} {r : V} (ht : P.underlying t = some .string) (hs : SRepL G [a] xs) (h : rSlen xs = some r) :
    ∃ cv, (Builtin.len_ #[t] ty #[a]).run P w = .ok cv w ∧ SRep G cv r := by
  unfold rSlen at h
  split at h
  · cases hs with | cons ha hs =>
    rw [ha.str_inv]
    injection h with h; subst h
    refine ⟨_, ?_, .data (.int _ _)⟩
    simp [Builtin.len_, run_und ht, goInt, sizeL]
  · cases h

theorem s_llen {t e ty : TypeId} {a : Value} {xs : List V} {r : V} (ht : P.underlying t = some (.slice e)) (hs : SRepL G [a] xs) (h : rLlen xs = some r) :
    ∃ cv, (Builtin.len_ #[t] ty #[a]).run P w = .ok cv w ∧ SRep G cv r := by
  unfold rLlen at h
  split at h
  · cases hs with | cons ha hs =>
    injection h with h; subst h
    rcases ha.list_inv with ⟨rfl, _, _, rfl, _⟩ | ⟨b', off, cap, vs, rfl, _⟩
    · refine ⟨.int .i64 0, ?_, .data (.int _ _)⟩
      simp [Builtin.len_, run_und ht, goInt]
    · refine ⟨_, ?_, .data (.int _ _)⟩
      simp [Builtin.len_, run_und ht, goInt]
  · cases hs with | cons ha hs =>
    injection h with h; subst h
    obtain ⟨bb, nn, off, cap, _, _, _, rfl⟩ := ha.slc_inv
    refine ⟨_, ?_, .data (.int _ _)⟩
    simp [Builtin.len_, run_und ht, goInt]
  · cases h

theorem s_ext {i : Nat} {a : Value} {xs : List V} {r : V} (hs : SRepL G [a] xs) (h : rExt i xs = some r) : ∃ cv, (Instr.extract a i).run P w = .ok cv w ∧ SRep G cv r := by
  unfold rExt at h
  split at h
  · rename_i vs
    cases hs with | cons ha hs =>
    obtain ⟨us, rfl, hr⟩ := ha.tup_inv
    cases hv : vs[i]? with
    | none => simp [hv] at h
    | some x =>
      simp [hv] at h
      subst h
      obtain ⟨u, hu, hru⟩ := hr.get hv
      exact ⟨u, by simp [Instr.extract, hu], hru.strip⟩
  · cases h

theorem notTup_some {x y : V} (h : notTup x = some y) : x = y ∧ (∀ vs, y ≠ .tup vs) ∧ ∀ n, y ≠ .fptr n := by
  cases x <;> simp [notTup] at h <;> subst h <;> exact ⟨rfl, by simp, by simp⟩

theorem s_extk {i : Nat} {a : Value} {xs : List V} {r : V} (hs : SRepL G [a] xs) (h : rExtk i xs = some r) : ∃ us : List Value, a = .tuple us.toArray ∧ ∃ vs, xs = [.tup vs] ∧ vs[i]? = some r ∧ ((∀ ys, r ≠ .tup ys) ∧ ∀ n, r ≠ .fptr n) ∧ ∃ cv, us[i]? = some cv ∧ (Instr.extract a i).run P w = .ok cv w ∧ SRep G cv r := by
  unfold rExtk at h
  split at h
  · rename_i vs
    cases hs with | cons ha hs =>
    obtain ⟨us, rfl, hr⟩ := ha.tup_inv
    obtain ⟨x, hx, h2⟩ := bind_some_iff.1 h
    obtain ⟨rfl, hnt⟩ := notTup_some h2
    obtain ⟨u, hu, hru⟩ := hr.get hx
    exact ⟨us, rfl, vs, rfl, hx, hnt, u, hu, by simp [Instr.extract, hu], hru⟩
  · cases h

theorem s_shf {op : BinOp} {t : TypeId} {x y : Operand} {a b : Value} {xs : List V} {r : V} (hs : SRepL G [a, b] xs) (h : rShf op xs = some r) :
    ∃ cv, (do eqGuard op t x y a b; binOp op t a b : Sem Value).run P w = .ok cv w ∧ SRep G cv r := by
  unfold rShf at h
  split at h
  · rename_i k a' k' b'
    cases hs with | cons ha hs => cases hs with | cons hb hs =>
    rw [ha.int_inv, hb.int_inv]
    split at h
    · cases h
    · rename_i hb0
      split at h <;> first
        | (injection h with h; subst h; refine ⟨_, ?_, .data (.int _ _)⟩; simp [eqGuard, binOp, Op.shift, hb0])
        | cases h
  · cases h

theorem s_i2s {s d : TypeId} {a : Value} {xs : List V} {r : V} (h1 : (P.underlying s).isSome = true) (h2 : P.underlying d = some .string) (hs : SRepL G [a] xs) (h : rI2s xs = some r) :
    ∃ cv, (convert s d a : Sem Value).run P w = .ok cv w ∧ SRep G cv r := by
  unfold rI2s at h
  split at h
  · injection h with h; subst h
    cases hs with | cons ha hs =>
    rename_i k n
    rw [ha.int_inv]
    refine ⟨_, run_convert_int_string w s d k n h1 h2, .data ?_⟩
    have : Rep G.K (.string ⟨(Utf8.encode n).data.toList.toArray⟩) (.str (Utf8.encode n).data.toList) := .str _
    simpa using this
  · cases h
theorem s_convi {s d : TypeId} {k : IntKind} {ds : TypeDesc} {a : Value} {xs : List V} {r : V} (h1 : P.underlying s = some ds) (h2 : P.underlying d = some (.int k)) (hs : SRepL G [a] xs) (h : rConvi k xs = some r) :
    ∃ cv, (convert s d a).run P w = .ok cv w ∧ SRep G cv r := by
  unfold rConvi at h
  split at h
  · cases hs with | cons ha hs =>
    rw [ha.int_inv]
    injection h with h; subst h
    refine ⟨_, ?_, .data (.int _ _)⟩
    simp only [convert, Sem.run_bind, run_und h1, run_und h2, Result.andThen_ok]
    cases ds <;> rfl
  · cases h

end ops
end Go.Proofs.YtpmpofcokkgfdaaGreatDoor.Ev

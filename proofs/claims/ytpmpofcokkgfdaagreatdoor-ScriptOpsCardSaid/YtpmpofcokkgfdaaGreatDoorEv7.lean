/- What ties an operation of the evaluator to one of the model's (a Bool over the program), and that it then does what the evaluator says. -/
import Derived.Test.YtpmpofcokkgfdaaGreatDoorEv6
import Derived.Laws.StructEq
namespace Go.Proofs.YtpmpofcokkgfdaaGreatDoor.Ev
open Go

def undIs (P : Program) (t : TypeId) (p : TypeDesc → Bool) : Bool :=
  match P.underlying t with
  | some d => p d
  | none => false

def isStrD : TypeDesc → Bool | .string => true | _ => false
def isBoolD : TypeDesc → Bool | .bool => true | _ => false
def isPtrD : TypeDesc → Bool | .pointer _ => true | _ => false
def isIntD (k : IntKind) : TypeDesc → Bool | .int k' => decide (k = k') | _ => false
def sliceD (P : Program) (sz : Nat) : TypeDesc → Bool
  | .slice e => (match P.info? e with | some i => i.size == sz | none => false)
  | _ => false
def isIfcD : TypeDesc → Bool | .interface _ => true | _ => false
def isSliceD : TypeDesc → Bool | .slice _ => true | _ => false

/-- A variable of the type: so many cells (none: one, no struct). -/
def varIs (P : Program) (t : TypeId) (n : Option Nat) : Bool :=
  match P.info? t, P.underlying t with
  | some i, some d => n == aggN d i.size
  | _, _ => false

def fieldIs (P : Program) (t : TypeId) (fi off : Nat) (p : TypeId → Bool) : Bool :=
  match P.underlying t with
  | some (.struct fs) => (match fs[fi]? with | some f => f.offset == off && p f.type | none => false)
  | _ => false

def sizeNe0 (P : Program) (t : TypeId) : Bool :=
  match P.info? t with
  | some i => i.size != 0
  | none => false

def okFields (P : Program) : Nat → List Nat → List Field → Bool
  | _, [], [] => true
  | k, n :: ns, f :: fs => f.offset == k && f.name != "_" && (match n, P.underlying f.type with | 0, some (.int _) => true | 1, some .string => true | 2, some .bool => true | _, _ => false) && okFields P (k + 1) ns fs
  | _, _, _ => false

def okPlaces (P : Program) (t : TypeId) (idx : List Nat) (ps : List (Nat × Nat)) : Bool :=
  match placesOf P t with
  | some place => idx.map place == ps.map some
  | none => false

def zeroIs (P : Program) (t : TypeId) (zero : List V) : Bool :=
  match P.info? t with
  | some i => (match i.zero with | some z => repCs z.cells.toList zero | none => false)
  | none => false

def isAppend (P : Program) (sz bytes : Nat) (t u : TypeId) : Bool :=
  decide (t = u) && match P.underlying t with
  | some (.slice e) => (match P.info? e with
    | some i => i.size == sz && i.bytes == bytes && decide (0 < sz) && (match i.zero with | some z => z.cells.size == sz | none => false)
    | none => false)
  | _ => false

def isBslice (P : Program) (sz n len : Nat) (t : TypeId) (zero : List V) : Bool :=
  match P.underlying t with
  | some (.slice e) => (match P.info? e with
    | some i => i.size == sz && decide (0 < sz) && (len == n) && decide (n * sz ≤ 16777216) && (match i.zero with | some z => repCs ((Array.range (len * i.size)).map (z.cells[· % z.cells.size]!)).toList zero && (zero.length == n * sz) | none => false)
    | none => false)
  | _ => false

def keyD : Option IntKind → TypeDesc → Bool
  | none, .string => true
  | some k, .int k' => decide (k = k')
  | _, _ => false
def repV (z : Value) (x : V) : Bool :=
  match z, x with
  | .agg cs, .agg xs => repCs cs.toList xs
  | .agg _, _ => false
  | _, .agg _ => false
  | z, x => repC z x && okc x
def zeroV (P : Program) (t : TypeId) (zero : V) : Bool :=
  match P.info? t with
  | some i => (match i.zero with | some z => repV z zero | none => false)
  | none => false
def isMake (P : Program) (sz bytes : Nat) (zero : List V) (t : TypeId) : Bool :=
  match P.underlying t with
  | some (.slice e) => (match P.info? e with
    | some i => i.size == sz && i.bytes == bytes && decide (0 < sz) && zero.length == sz && (match i.zero with | some z => repCs z.cells.toList zero | none => false)
    | none => false)
  | _ => false
def isByteT (P : Program) (e : TypeId) : Bool :=
  undIs P e (isIntD .u8) && match P.info? e with
  | some i => i.size == 1 && i.bytes == 1 && (match i.zero with | some (.int .u8 0) => true | _ => false)
  | none => false
def isAppends (P : Program) (t u : TypeId) : Bool :=
  undIs P u isStrD && match P.underlying t with
  | some (.slice e) => isByteT P e
  | _ => false

def isK : List AArg → Bool
  | .k _ :: _ => true
  | _ => false

/-- Operations that must have a place for what they give. -/
def needsDst : Prim → Bool
  | .append .. | .bslice .. | .bslicef .. | .cvb | .allocf _ | .boxc | .storec _ | .appends | .s2b | .lsl _ _ _ true => true
  | _ => false

def callable (P : Program) (f : Nat) : Bool :=
  match P.funcs[f]? with
  | some fn => fn.name != "runtime.NumGoroutine" && fn.body.isSome
  | none => false

def okPrim (P : Program) (op : Op) (args : List AArg) : Prim → Bool
  | .mv => (match op with | .move x => okArgs [x] args | .assign x => okArgs [x] args | _ => false)
  | .pick => (match op with | .pick c a b => okArgs [c, a, b] args | _ => false)
  | .bin bo => (match op with | .binOp bo' _ x y _ => decide (bo = bo') && okArgs [x, y] args | _ => false)
  | .un .not => (match op with | .unOp .not _ x => okArgs [x] args | _ => false)
  | .un .neg => (match op with | .unOp .neg _ x => okArgs [x] args | _ => false)
  | .un _ => false
  | .beq neg => (match op with | .binOp bo t x y _ => decide (bo = if neg then .neq else .eql) && undIs P t isBoolD && okArgs [x, y] args | _ => false)
  | .seq ks neg => (match op with | .binOp bo t x y _ => decide (bo = if neg then .neq else .eql) && !P.stoodInHeld t && !P.eqGuardType P.depth t && okArgs [x, y] args &&
      (match P.underlying t with | some (.struct fs) => okFields P 0 ks fs.toList | _ => false) | _ => false)
  | .isnil neg => (match op with | .binOp bo t x (.const (.pointer none)) _ => decide (bo = if neg then .neq else .eql) && undIs P t isPtrD && okArgs [x] args | _ => false)
  | .isnils neg => (match op with | .binOp bo t x (.const (.slice none 0 0)) _ => decide (bo = if neg then .neq else .eql) && undIs P t isSliceD && okArgs [x] args | _ => false)
  | .isifc neg => (match op with | .binOp bo t x (.const .nilIface) _ => decide (bo = if neg then .neq else .eql) && undIs P t isIfcD && okArgs [x] args | _ => false)
  | .allocf n => (match op with | .alloc t => (match P.info? t with | some i => i.size == n && (match i.zero with | some z => z.cells.size == n | none => false) | none => false) && okArgs [] args | _ => false)
  | .boxc => (match op with | .box _ x => okArgs [x] args | _ => false)
  | .storec n => (match op with | .store t x v => (match P.info? t, args with | some i, [.k _, _] => i.size == n && okArgs [x, v] args | _, _ => false) | _ => false)
  | .loadc n => (match op with | .load t x => varIs P t n && okArgs [x] args | _ => false)
  | .cvb => (match op with | .convert s d x => decide (s = d) && (match P.underlying s with | some (.slice e) => isByteT P e | _ => false) && isK args && okArgs [x] args | _ => false)
  | .sidx => (match op with | .index t x i => undIs P t isStrD && okArgs [x, i] args | _ => false)
  | .aidx n sz ag => (match op with | .index t x i => okArgs [x, i] args && (match P.underlying t with | some (.array n' e) => n == n' && (match P.info? e, P.underlying e with | some j, some d => j.size == sz && ag == (aggN d 0).isSome && (ag || sz == 1) | _, _ => false) | _ => false) | _ => false)
  | .iaddr sz => (match op with | .indexAddr t x i => undIs P t (sliceD P sz) && okArgs [x, i] args | _ => false)
  | .iaddra n sz => (match op with | .indexAddr t x i => okArgs [x, i] args && (match P.underlying t with | some (.array n' e) => n == n' && (match P.info? e with | some j => j.size == sz | none => false) | _ => false) | _ => false)
  | .faddr off => (match op with | .fieldAddr t x fi => fieldIs P t fi off (sizeNe0 P) && okArgs [x] args | _ => false)
  | .load n => (match op with | .load t x => varIs P t n && okArgs [x] args | _ => false)
  | .store n => (match op with | .store t x v => (match P.info? t with | some i => i.size == n | none => false) && okArgs [x, v] args | _ => false)
  | .ssl lo hi => (match op with | .slice t x l h none => lo == l.isSome && hi == h.isSome && undIs P t isStrD && okArgs (x :: (l.toList ++ h.toList)) args | _ => false)
  | .lsl sz lo hi false => (match op with | .slice t x l h none => lo == l.isSome && hi == h.isSome && undIs P t (sliceD P sz) && okArgs (x :: (l.toList ++ h.toList)) args | _ => false)
  | .lsl sz _ _ true => (match op with | .slice t x none (some h) (some m) => undIs P t (sliceD P sz) && okArgs [x, h, m] args | _ => false)
  | .shf bo => (match op with | .binOp bo' _ x y _ => decide (bo = bo') && okArgs [x, y] args | _ => false)
  | .builds zero ps => (match op with | .build t parts => zeroIs P t zero && okPlaces P t (parts.toList.map (·.1)) ps && okArgs (parts.toList.map (·.2)) args | _ => false)
  | .anew zero => (match op with | .alloc t => zeroIs P t zero && okArgs [] args | _ => false)
  | .abox => (match op with | .box _ x => okArgs [x] args | _ => false)
  | .loadk => (match op with | .load t x => varIs P t none && okArgs [x] args | _ => false)
  | .extk i => (match op with | .extract x i' => decide (i = i') && isK args && okArgs [x] args | _ => false)
  | .mkmap kd => (match op with | .makeMap t none => (match P.underlying t with | some (.map k _) => undIs P k (keyD kd) | _ => false) && okArgs [] args | _ => false)
  | .mget kd ok zero => (match op with | .lookup t x i ok' => ok == ok' && (match P.underlying t with | some (.map k e) => undIs P k (keyD kd) && zeroV P e zero | _ => false) && okArgs [x, i] args | _ => false)
  | .mset kd => (match op with | .mapUpdate t m k v => (match P.underlying t with | some (.map k' _) => undIs P k' (keyD kd) | _ => false) && okArgs [m, k, v] args | .insert t m k v => (match P.underlying t with | some (.map k' _) => undIs P k' (keyD kd) | _ => false) && okArgs [m, k, v] args | _ => false)
  | .mkrow sz bytes zero => (match op with | .makeSlice t l c => isMake P sz bytes zero t && okArgs [l, c] args | _ => false)
  | .copyb sz => (match op with | .call c => (match c.callee, c.args.toList, c.argTypes.toList with | .builtin .copy, [x, y], [t, _] => undIs P t (sliceD P sz) && okArgs [x, y] args | _, _, _ => false) | _ => false)
  | .rng => (match op with | .range t x => undIs P t isStrD && okArgs [x] args | _ => false)
  | .nxt => (match op with | .next x true => okArgs [x] args | _ => false)
  | .slen => (match op with | .call c => (match c.callee, c.args.toList, c.argTypes.toList with | .builtin .len, [x], [t] => undIs P t isStrD && okArgs [x] args | _, _, _ => false) | _ => false)
  | .llen => (match op with | .call c => (match c.callee, c.args.toList, c.argTypes.toList with | .builtin .len, [x], [t] => undIs P t isSliceD && okArgs [x] args | _, _, _ => false) | _ => false)
  | .append sz bytes => (match op with | .call c => (match c.callee, c.args.toList, c.argTypes.toList with | .builtin .append, [x, y], [t, u] => isAppend P sz bytes t u && isK args && okArgs [x, y] args | _, _, _ => false) | _ => false)
  | .appends => (match op with | .call c => (match c.callee, c.args.toList, c.argTypes.toList with | .builtin .append, [x, y], [t, u] => isAppends P t u && isK args && okArgs [x, y] args | _, _, _ => false) | _ => false)
  | .call f => (match op with | .call c => (match c.callee with | .value (.func f') => decide (f = f') && okArgs c.args.toList args | _ => false) | _ => false)
  | .callp f => (match op with | .call c => (match c.callee with | .value (.func f') => decide (f = f') && okArgs c.args.toList args | _ => false) | _ => false)
  | .callt f => (match op with | .call c => (match c.callee with | .value (.func f') => decide (f = f') && okArgs c.args.toList args | _ => false) | _ => false)
  | .callv => (match op with | .call c => (match c.callee with | .value x => okArgs (x :: c.args.toList) args | _ => false) | _ => false)
  | .ext i => (match op with | .extract x i' => decide (i = i') && okArgs [x] args | _ => false)
  | .fld off n => (match op with | .field t x fi => fieldIs P t fi off (fun u => varIs P u n) && okArgs [x] args | _ => false)
  | .build zero ps => (match op with | .build t parts => zeroIs P t zero && okPlaces P t (parts.toList.map (·.1)) ps && okArgs (parts.toList.map (·.2)) args | _ => false)
  | .bslice sz n zero ps => (match op with | .buildSlice t len parts => isBslice P sz n len t zero && ((parts.toList.map fun p => (p.1 * sz, sz)) == ps) && okArgs (parts.toList.map (·.2)) args | _ => false)
  | .bslicef sz n zero ps => (match op with | .buildSlice t len parts => isBslice P sz n len t zero && ((parts.toList.map fun p => (p.1 * sz, sz)) == ps) && okArgs (parts.toList.map (·.2)) args | _ => false)
  | .alloc zero => (match op with | .alloc t => zeroIs P t zero && okArgs [] args | _ => false)
  | .box => (match op with | .box _ x => okArgs [x] args | _ => false)
  | .i2s => (match op with | .convert s d x => (P.underlying s).isSome && undIs P d isStrD && okArgs [x] args | _ => false)
  | .convi k => (match op with | .convert s d x => undIs P s (fun _ => true) && undIs P d (isIntD k) && okArgs [x] args | _ => false)
  | .s2b => (match op with | .convert s d x => undIs P s isStrD && (match P.underlying d with | some (.slice e) => isByteT P e | _ => false) && okArgs [x] args | _ => false)
  | .b2s => (match op with | .convert s d x => undIs P d isStrD && (match P.underlying s with | some (.slice e) => isByteT P e | _ => false) && okArgs [x] args | _ => false)
  | .mkf fn nf => (match op with | .makeFunc fn' f c => decide (fn = fn') && f.size == nf && okArgs (f.toList ++ c.toList) args | _ => false)
  | .nilchk => (match op with | .nilCheck x => okArgs [x] args | _ => false)
  | .asl n sz => (match op with | .slice t x none none none => okArgs [x] args && (match P.underlying t with | some (.array n' e) => n == n' && (match P.info? e with | some j => j.size == sz | none => false) | _ => false) | _ => false)

def noc : V → Bool
  | .list _ _ true => false
  | .tup _ => false
  | .fptr _ => false
  | _ => true
theorem noc_sound {x : V} (h : noc x = true) : noClaim x := by
  refine noClaim_of (fun sz xs hx => ?_) (fun vs hx => ?_) (fun n hx => ?_) <;> subst hx <;> cases h

/-- Operations that only compute. -/
def Prim.plain : Prim → Bool
  | .mv | .cvb | .allocf _ | .boxc | .storec _ | .append .. | .appends | .bslice .. | .bslicef .. | .store _ | .alloc _ | .box | .call _ | .callv | .callp _ | .callt _ | .s2b | .extk _ | .lsl _ _ _ true => false
  | .anew _ | .abox | .loadk | .mkmap _ | .mget .. | .mset _ | .mkrow .. | .copyb _ | .rng | .nxt => false
  | _ => true

section ops
variable {P : Program} {G : Gh} {w : World}

theorem undIs_ex {t : TypeId} {p : TypeDesc → Bool} (h : undIs P t p = true) : ∃ d, P.underlying t = some d ∧ p d = true := by
  unfold undIs at h
  split at h
  · exact ⟨_, by assumption, h⟩
  · cases h

theorem strD {t : TypeId} (h : undIs P t isStrD = true) : P.underlying t = some .string := by
  obtain ⟨d, h1, h2⟩ := undIs_ex h
  cases d <;> simp [isStrD] at h2; exact h1
theorem boolD {t : TypeId} (h : undIs P t isBoolD = true) : P.underlying t = some .bool := by
  obtain ⟨d, h1, h2⟩ := undIs_ex h
  cases d <;> simp [isBoolD] at h2; exact h1
theorem ptrD {t : TypeId} (h : undIs P t isPtrD = true) : ∃ e, P.underlying t = some (.pointer e) := by
  obtain ⟨d, h1, h2⟩ := undIs_ex h
  cases d <;> simp [isPtrD] at h2; exact ⟨_, h1⟩
theorem intD {t : TypeId} {k : IntKind} (h : undIs P t (isIntD k) = true) : P.underlying t = some (.int k) := by
  obtain ⟨d, h1, h2⟩ := undIs_ex h
  cases d <;> simp [isIntD] at h2; subst h2; exact h1
theorem slD {t : TypeId} {sz : Nat} (h : undIs P t (sliceD P sz) = true) : ∃ e i, P.underlying t = some (.slice e) ∧ P.info? e = some i ∧ i.size = sz := by
  obtain ⟨d, h1, h2⟩ := undIs_ex h
  cases d <;> simp [sliceD] at h2
  rename_i e
  cases hi : P.info? e with
  | none => simp [hi] at h2
  | some i => simp [hi] at h2; exact ⟨e, i, h1, hi, h2⟩
theorem ifD {t : TypeId} (h : undIs P t isIfcD = true) : ∃ e, P.underlying t = some (.interface e) := by
  obtain ⟨d, h1, h2⟩ := undIs_ex h
  cases d <;> simp [isIfcD] at h2; exact ⟨_, h1⟩
theorem slD' {t : TypeId} (h : undIs P t isSliceD = true) : ∃ e, P.underlying t = some (.slice e) := by
  obtain ⟨d, h1, h2⟩ := undIs_ex h
  cases d <;> simp [isSliceD] at h2; exact ⟨_, h1⟩
theorem varD {t : TypeId} {n : Option Nat} (h : varIs P t n = true) : ∃ i d, P.info? t = some i ∧ P.underlying t = some d ∧ n = aggN d i.size := by
  unfold varIs at h
  split at h
  · exact ⟨_, _, by assumption, by assumption, by simpa using h⟩
  · cases h
theorem fldD {t : TypeId} {fi off : Nat} {p : TypeId → Bool} (h : fieldIs P t fi off p = true) : ∃ fs f, P.underlying t = some (.struct fs) ∧ fs[fi]? = some f ∧ f.offset = off ∧ p f.type = true := by
  unfold fieldIs at h
  split at h
  · rename_i fs hu
    split at h
    · rename_i f hf
      simp at h
      exact ⟨fs, f, hu, hf, h.1, h.2⟩
    · cases h
  · cases h

theorem loadV_noClaim {n : Option Nat} {cs : List V} {r : V} (h : loadV n cs = some r) : noClaim r := by
  unfold loadV at h
  split at h
  · split at h
    · injection h with h; subst h; exact noClaim_strip _
    · cases h
  · split at h
    · injection h with h; subst h; exact noc_sound rfl
    · cases h

theorem loadB_noClaim {n : Option Nat} {cs : List V} {r : V} (h : loadB n cs = some r) : noClaim r := by
  cases n with
  | none => exact loadV_noClaim (show loadV none cs = some r from h)
  | some k =>
    simp only [loadB] at h
    split at h
    · injection h with h; subst h; exact noc_sound rfl
    · cases h

theorem eqFields_run {d : Nat} {cs ds : List Value} : ∀ (fs : List Field) (ks : List Nat) (k : Nat) (xs ys : List V) (e : Bool), okFields P k ks fs = true → RepL G.K (cs.drop k) xs → RepL G.K (ds.drop k) ys →
    cellsEq ks xs ys = some e → (Op.eqFields (d + 1) cs.toArray ds.toArray fs).run P w = .ok e w
  | [], [], k, xs, ys, e, _, h1, h2, h => by
    cases xs <;> cases ys <;> simp [cellsEq] at h
    subst h
    simp [Op.eqFields]
  | f :: fs, n :: ns, k, xs, ys, e, hk, h1, h2, h => by
    cases xs with
    | nil => simp [cellsEq] at h
    | cons x xs =>
      cases ys with
      | nil => simp [cellsEq] at h
      | cons y ys =>
        simp only [okFields, Bool.and_eq_true] at hk
        obtain ⟨⟨⟨hoff, hnm⟩, hty⟩, hrest⟩ := hk
        simp only [cellsEq] at h
        obtain ⟨b, hb, h⟩ := bind_some_iff.1 h
        obtain ⟨u, hu, hux⟩ := h1.get (i := 0) rfl
        obtain ⟨v, hv, hvy⟩ := h2.get (i := 0) rfl
        rw [List.getElem?_drop, Nat.add_zero] at hu hv
        have ht1 : RepL G.K (cs.drop (k + 1)) xs := by
          have := h1.drop 1
          simpa [List.drop_drop] using this
        have ht2 : RepL G.K (ds.drop (k + 1)) ys := by
          have := h2.drop 1
          simpa [List.drop_drop] using this
        have hoff' : f.offset = k := by simpa using hoff
        have hnm' : f.name ≠ "_" := by simpa using hnm
        have hpart : ∀ (es : List Value) (z : Value), es[k]? = some z → (∀ fs', P.underlying f.type ≠ some (.struct fs')) → (∀ n e, P.underlying f.type ≠ some (.array n e)) → (∃ dd, P.underlying f.type = some dd) → (part f.type es.toArray f.offset).run P w = .ok z w := by
          intro es z hz hns hna hd
          obtain ⟨dd, hdd⟩ := hd
          have : (isAgg f.type).run P w = .ok false w := by
            simp only [isAgg, Sem.run_bind, run_und hdd, Result.andThen_ok]
            cases dd <;> first | rfl | exact absurd hdd (hns _) | exact absurd hdd (hna _ _)
          simp [part, this, hoff', hz]
        have hone : (Op.equalIn (d + 1) f.type u v).run P w = .ok b w ∧ (∀ fs', P.underlying f.type ≠ some (.struct fs')) ∧ (∀ n e, P.underlying f.type ≠ some (.array n e)) ∧ (∃ dd, P.underlying f.type = some dd) := by
          unfold cellEq at hb
          split at hb
          · split at hb
            · rename_i hkk
              subst hkk
              injection hb with hb; subst hb
              cases hux; cases hvy
              cases hut : P.underlying f.type with
              | none => simp [hut] at hty
              | some dd =>
                cases dd <;> simp [hut] at hty
                exact ⟨run_equalIn_int w d f.type _ _ _ _ hut, by simp, by simp, ⟨_, rfl⟩⟩
            · cases hb
          · injection hb with hb; subst hb
            cases hux; cases hvy
            cases hut : P.underlying f.type with
            | none => simp [hut] at hty
            | some dd =>
              cases dd <;> simp [hut] at hty
              refine ⟨?_, by simp, by simp, ⟨_, rfl⟩⟩
              rw [run_equalIn_string w d f.type _ _ hut, toL, toL]
          · injection hb with hb; subst hb
            cases hux; cases hvy
            cases hut : P.underlying f.type with
            | none => simp [hut] at hty
            | some dd =>
              cases dd <;> simp [hut] at hty
              exact ⟨run_equalIn_bool' w d f.type _ _ hut, by simp, by simp, ⟨_, rfl⟩⟩
          · cases hb
        obtain ⟨e1, e2, e3, e4⟩ := hone
        simp only [Op.eqFields, if_pos hnm', Sem.run_bind, hpart cs u hu e2 e3 e4, hpart ds v hv e2 e3 e4, e1, Result.andThen_ok]
        cases b with
        | true =>
          simp only [cond_true] at h
          simp only [Bool.not_true, Bool.false_eq_true, if_false]
          exact eqFields_run fs ns (k + 1) xs ys e hrest ht1 ht2 h
        | false =>
          simp only [cond_false, Option.some.injEq] at h
          subst h
          simp
  | [], _ :: _, _, _, _, _, hk, _, _, _ => by simp [okFields] at hk
  | _ :: _, [], _, _, _, _, hk, _, _, _ => by simp [okFields] at hk

theorem s_seq {ks : List Nat} {neg : Bool} {t : TypeId} {fs : Array Field} {x y : Operand} {a b : Value} {xs : List V} {r : V} (h1 : P.stoodInHeld t = false) (h2 : P.eqGuardType P.depth t = false) (h3 : P.underlying t = some (.struct fs))
    (h4 : okFields P 0 ks fs.toList = true) (hs : SRepL G [a, b] xs) (h : rSeq ks neg xs = some r) :
    ∃ cv, (do eqGuard (if neg then .neq else .eql) t x y a b; binOp (if neg then .neq else .eql) t a b : Sem Value).run P w = .ok cv w ∧ SRep G cv r := by
  unfold rSeq at h
  split at h
  · cases hs with | cons ha hs => cases hs with | cons hb hs =>
    obtain ⟨cs, rfl, _, hc⟩ := ha.agg_inv
    obtain ⟨ds, rfl, _, hd⟩ := hb.agg_inv
    obtain ⟨e, he, h⟩ := Option.map_eq_some_iff.1 h
    subst h
    have hf : P.fieldsOf t = fs := by simp [Program.fieldsOf, h3]
    have key := run_equalIn_struct (P := P) w 9999 t cs.toArray ds.toArray (by rw [hf]; exact h3) h1
    rw [hf, eqFields_run (P := P) (w := w) (d := 9998) fs.toList ks 0 _ _ e h4 (by simpa using hc) (by simpa using hd) he] at key
    cases neg
    · refine ⟨.bool e, ?_, .data (by simpa using .bool _)⟩
      simp only [Bool.false_eq_true, if_false, Sem.run_bind, run_eqGuard_agg (P := P) w .eql t x y _ _ h2, Result.andThen_ok, run_eql_struct, key]
    · refine ⟨.bool (!e), ?_, .data (by simpa using .bool _)⟩
      simp only [if_true, Sem.run_bind, run_eqGuard_agg (P := P) w .neq t x y _ _ h2, Result.andThen_ok, run_neq_struct, key]
  · cases h

end ops
end Go.Proofs.YtpmpofcokkgfdaaGreatDoor.Ev

/- An operation of the frame, whatever it is, keeps the frame's invariant and does what the evaluator says. -/
import Derived.Test.YtgggjclhadlncaaEv8
namespace Go.Proofs.Ytgggjclhadlncaa.Ev
open Go

/-- A call of function f does what (xs, M) ↦ (r, M') says, from whatever world in which xs and M stand. -/
def CallsOK (P : Program) (f : Nat) (xs : List V) (M : Mem) (r : V) (M' : Mem) : Prop :=
  callable P f = true ∧ ∀ (G : Gh) (w : World) (cargs : Array Value), Inv G w M → (∀ b l t, G.phi b = some (.slot l t) → l < M.length) → SRepL G cargs.toList xs →
    Calls P f cargs w fun e w' => ∃ v G', e = .returned v ∧ SRep G' v r ∧ Inv G' w' M' ∧ Ext M.length G w G' w' ∧ (∀ b l t, G'.phi b = some (.slot l t) → l < M.length) ∧ M'.length = M.length

def Sound (P : Program) (call : CallF) : Prop := ∀ f xs M r M', call f xs M = some (r, M') → CallsOK P f xs M r M'

section
variable {P : Program} {call : CallF} {G0 : Gh} {w0 : World} {L N : Nat} {G : Gh} {a : Act} {s : St} {w : World}

theorem FInv.reads (h : FInv G0 w0 L N G a s w) : ReadsAs G a.eval s.env := fun hk => okArgs_sound h.slots hk

/-- Through a call. -/
theorem FInv.called (h : FInv G0 w0 L N G a s w) {M' : Mem} {G1 : Gh} {w1 : World} (hl : M'.length = s.mem.length) (hi : Inv G1 w1 M') (he : Ext s.mem.length G w G1 w1)
    (hf : ∀ b l t, G1.phi b = some (.slot l t) → l < s.mem.length) : FInv G0 w0 L N G1 a { s with mem := M' } w1 := by
  have hlv : s.mem.length = L + 1 := h.lvl
  rw [hlv] at he hf
  have g : GLe G G1 := ⟨by rw [h.inv.lv, hi.lv, hl]; exact Nat.le_refl _, he.K, fun l t b hlt hb => by rw [he.lam l t (by rw [h.inv.lv, hlv] at hlt; exact hlt)]; exact hb⟩
  refine ⟨hi, by rw [hl]; exact hlv, h.size, h.defers, fun t => (h.slots t).mono g, fun t sz xs hg => ?_, ⟨fun b o v hv => he.K _ _ _ (h.ext.K b o v hv), fun l t hlt => (he.lam l t (by omega)).trans (h.ext.lam l t hlt), Nat.le_trans h.ext.size he.size, he.os.trans h.ext.os, he.tape.trans h.ext.tape, he.output.trans h.ext.output,
    fun b hb hn => ?_, fun b l t hlt hb => he.box b l t (by omega) (h.ext.box b l t hlt hb)⟩, h.fresh0, fun b l t hb => by have := hf b l t hb; omega⟩
  · rcases h.own t sz xs hg with h1 | ⟨g', cap, cur, e, h1, h2, h3, h4, h5, h6, h7⟩
    · exact .inl h1
    · have hg' : g' < w.heap.size := (Array.getElem?_eq_some_iff.1 h3).1
      obtain ⟨c1, c2, c3⟩ := he.blk g' hg' (fun l t => by rw [h2]; simp)
      exact .inr ⟨g', cap, cur, e, h1, by rw [c3]; exact h2, by rw [c1]; exact h3, h4, h5, h6, fun o ho => by rw [c2]; exact h7 o ho⟩
  · obtain ⟨e1, e2, e3⟩ := h.ext.blk b hb hn
    obtain ⟨c1, c2, c3⟩ := he.blk b (Nat.lt_of_lt_of_le hb h.ext.size) (fun l t => by rw [e3]; exact hn l t)
    exact ⟨c1.trans e1, fun o => (c2 o).trans (e2 o), c3.trans e3⟩

theorem SRepL.noLocal : ∀ {vs : List Value} {xs : List V}, SRepL G vs xs → (∀ x ∈ xs, isLocal x = false) → SRepL { lv := 0, K := G.K, lam := G.lam, phi := fun _ => none } vs xs
  | _, _, .nil, _ => .nil
  | _, _, .cons r rs, h => .cons (.data (r.toRep (h _ (by simp)))) (SRepL.noLocal rs (fun x hx => h x (by simp [hx])))

/-- Through a call that was handed no memory: every block that stood stands as it was. -/
theorem FInv.calledPure (h : FInv G0 w0 L N G a s w) {G1 : Gh} {w1 : World} {cv : Value} {r : V} (he : Ext 0 { lv := 0, K := G.K, lam := G.lam, phi := fun _ => none } w G1 w1) (hi : Inv G1 w1 []) (hr : SRep G1 cv r) :
    ∃ G2, FInv G0 w0 L N G2 a s w1 ∧ SRep G2 cv r := by
  have hb : ∀ b, b < w.heap.size → w1.heap[b]? = w.heap[b]? ∧ (∀ o, G1.K b o = G.K b o) := fun b hb => by
    obtain ⟨e1, e2, _⟩ := he.blk b hb (fun l t => by simp)
    exact ⟨e1, e2⟩
  let G2 : Gh := { lv := G.lv, K := G1.K, lam := G.lam, phi := G.phi }
  have c : Chg (fun _ => False) G w G2 w1 := ⟨rfl, he.K, fun _ _ _ h => h, he.size, he.os, he.tape, he.output, fun b hlt _ => ⟨(hb b hlt).1, (hb b hlt).2, rfl⟩⟩
  refine ⟨G2, ⟨⟨h.inv.lv, hi.kh, fun l t cs hm => c.box (h.inv.mem l t cs hm) (fun b hl _ => ⟨h.inv.lamL _ _ _ hl, fun hf => hf⟩), h.inv.lamBox, fun l t b hl => Nat.lt_of_lt_of_le (h.inv.lamL l t b hl) he.size, fun b hb => Nat.lt_of_lt_of_le (h.inv.phiL b hb) he.size⟩,
    h.lvl, h.size, h.defers, fun t => (h.slots t).mono c.gle, fun t sz xs hg => c.own (h.own t sz xs hg) (fun _ _ _ hf => hf), c.ext h.ext (fun _ _ _ => rfl) (fun _ _ _ hf => hf) (fun _ _ _ _ _ h1 => h1), h.fresh0, h.fresh⟩, ?_⟩
  have : GLe G1 G2 := ⟨by rw [hi.lv]; exact Nat.zero_le _, fun _ _ _ h => h, fun l t b hl _ => by rw [hi.lv] at hl; simp at hl⟩
  exact hr.mono this

theorem call_run {o : Oper} {c : Call} {f : Nat} {x : Operand} {fs cs : Array Value} (hop : o.op = .call c) (hc : c.callee = .value x) (hx : a.eval x = .func (.func f) fs cs) (hcall : callable P f = true) :
    (execOp a.eval o).run P w = .ok (.enter f (fs ++ c.args.map a.eval ++ cs)) w := by
  unfold callable at hcall
  split at hcall
  · rename_i fn hfn
    simp only [Bool.and_eq_true, bne_iff_ne, ne_eq] at hcall
    unfold execOp
    rw [hop]
    simp only [resolve, hc, hx, Deferred.ofValue, Sem.run_bind, Sem.run_pure, Result.andThen_ok, invoke, callFunc, program, Sem.run]
    rw [hfn]
    have hn : (fn.name == "runtime.NumGoroutine") = false := by simpa using hcall.1
    have hb : fn.body.isNone = false := by cases hb : fn.body <;> simp_all
    simp only [hn, hb, Bool.false_eq_true, if_false, Sem.run_pure]
  · cases hcall

theorem toList_append_three {α : Type} (x y z : Array α) : (x ++ y ++ z).toList = x.toList ++ y.toList ++ z.toList := by simp


theorem setRow_eq {w : World} {g : Nat} {cur cells : Array Value} {e : TypeId} (hg : w.heap[g]? = some (.cells cur e (0, 0))) : (w.setRow g cells).heap = w.heap.setIfInBounds g (.cells cells e (0, 0)) := by
  apply Array.ext_getElem?
  intro i
  by_cases hi : i = g
  · subst hi
    rw [setRow_heap w i cur cells e _ hg]
    have : i < w.heap.size := (Array.getElem?_eq_some_iff.1 hg).1
    simp [this]
  · rw [setRow_other w g i cells hi]
    simp [Ne.symm hi]

/-- A row kept by knowledge is there. -/
theorem row_there (hI : Inv G w s.mem) {b off : Nat} {vs : List Value} (hK : ∀ i u, vs[i]? = some u → G.K b (off + i) = some u) : ∀ j u, vs[j]? = some u → w.cell? ((⟨b, off, none⟩ : Addr).add j) = some u := by
  intro j u hu
  rw [addr_add]
  exact hI.kh _ _ _ (hK j u hu)

theorem append_run {t : TypeId} {c : Call} {o : Oper} {x y : Operand} (hop : o.op = .call c) (hc : c.callee = .builtin .append) (ha : c.args = #[x, y]) (hat : c.argTypes = #[t, t]) {cv : Value} {w' : World}
    (h : (Builtin.append_ #[t, t] o.type #[a.eval x, a.eval y]).run P w = .ok cv w') : (execOp a.eval o).run P w = .ok (.value cv) w' := by
  unfold execOp
  rw [hop]
  simp [resolve, hc, ha, hat, invoke, builtin, h]

theorem run_append_zero {t ty e : TypeId} {i : TypeInfo} (ht : P.underlying t = some (.slice e)) (hi : P.info? e = some i) {v y : Value} {n cap : Nat} {base : Option Addr} (hv : v = .slice base n cap) (hnc : n ≤ cap)
    (hy : (Builtin.lenOf y).run P w = .ok 0 w) (hf : (Builtin.firstCells i.size 0 y).run P w = .ok #[] w) : (Builtin.append_ #[t, t] ty #[v, y]).run P w = .ok v w := by
  subst hv
  cases base with
  | none => simp [Builtin.append_, run_underlying ht, sizeOf, typeInfo, hi, hy, hnc, hf]
  | some b => simp [Builtin.append_, run_underlying ht, sizeOf, typeInfo, hi, hy, hnc, hf, storeCells]

/-- Slot n owns a row; a row is appended, and slot d owns what comes out. -/
theorem append_sound {o : Oper} {c : Call} {x y : Operand} {t e : TypeId} {i : TypeInfo} {z : Value} {sz bytes : Nat} (hop : o.op = .call c) (hc : c.callee = .builtin .append) (ha : c.args = #[x, y]) (hat : c.argTypes = #[t, t])
    (ht : P.underlying t = some (.slice e)) (hi : P.info? e = some i) (hsz : i.size = sz) (hby : i.bytes = bytes) (hpos : 0 < sz) (hz : i.zero = some z) (hzs : z.cells.size = sz)
    (h : FInv G0 w0 L N G a s w) {d n : Nat} (hd : d < N) {xs ys : List V} {own : Bool} (hx : get s.env n = .list sz xs true) (hxe : a.eval x = a.tmps.getD n Go.undef) (hy : SRep G (a.eval y) (.list sz ys own))
    (hb1 : (xs.length + ys.length) * bytes ≤ 140737488355328) (hb2 : xs.length + ys.length ≤ 140737488355328) (l : List AArg) (hl : .k n ∈ l) :
    ∃ G' cv w', (execOp a.eval o).run P w = .ok (.value cv) w' ∧ FInv G0 w0 L N G' (a.put (some d) cv) { s with env := putO (stripTakes s.env l) (some d) (.list sz (xs ++ ys) true) } w' := by
  have hxr := h.slots n
  rw [hx] at hxr
  have hown := h.own n sz xs hx
  have hxl := hxr.list_inv
  -- nothing is appended
  have zero : ys = [] → (Builtin.lenOf (a.eval y)).run P w = .ok 0 w → (Builtin.firstCells i.size 0 (a.eval y)).run P w = .ok #[] w →
      ∃ G' cv w', (execOp a.eval o).run P w = .ok (.value cv) w' ∧ FInv G0 w0 L N G' (a.put (some d) cv) { s with env := putO (stripTakes s.env l) (some d) (.list sz (xs ++ ys) true) } w' := by
    intro hys h1 h2
    subst hys
    rw [List.append_nil]
    obtain ⟨base, cap, hv, hnc⟩ : ∃ base cap, a.tmps.getD n Go.undef = .slice base xs.length cap ∧ xs.length ≤ cap := by
      rcases hxl with ⟨rfl, base, cap, hv, _⟩ | ⟨b, off, cap, vs, hv, hc', _⟩
      · exact ⟨base, cap, by simpa using hv, by simp⟩
      · exact ⟨_, cap, hv, hc'⟩
    have hrun := append_run (P := P) (w := w) (a := a) (o := o) hop hc ha hat (cv := a.tmps.getD n Go.undef) (w' := w) (by rw [hxe]; exact run_append_zero ht hi hv hnc h1 h2)
    exact ⟨_, _, _, hrun, h.putMove hd hx l hl⟩
  subst hsz hby
  rcases hy.list_inv with ⟨hys, base, cap, hv, _⟩ | ⟨b, off, cap, vs, hv, hyc, hysz, hyok, hyK, hyr⟩
  · refine zero hys (by rw [hv]; rfl) ?_
    rw [hv]
    cases base <;> simp [Builtin.firstCells, loadCells, loadCellsFrom]
  · by_cases hys : ys = []
    · subst hys
      exact zero rfl (by rw [hv]; rfl) (by rw [hv]; simp [Builtin.firstCells, loadCells, loadCellsFrom])
    · have hyl : 0 < ys.length := by cases ys with | nil => exact absurd rfl hys | cons _ _ => simp
      have hvl : vs.length = ys.length * i.size := by rw [hyr.length, flat_length hysz]
      have hnews := row_there h.inv hyK
      have hbn : ys.length * i.bytes ≤ 140737488355328 := Nat.le_trans (Nat.mul_le_mul_right _ (by omega)) hb1
      have hmax : (140737488355328 : Nat) ≤ maxLen := by unfold maxLen; omega
      have hcapm : grownCap w (xs.length + ys.length) (xs.length) e ≤ maxLen := grownCap_le_maxLen w _ _ e (by omega)
      rcases hown with ⟨hxv, rfl⟩ | ⟨g, cap', cur, e', hxv, hphi, hheap, hcs, hle, hcm, hKn⟩
      · -- nothing was there
        have hr := run_append_nil (P := P) w t o.type e i z ht hi hz ⟨b, off, none⟩ ys.length cap vs hvl hnews hyl (by omega) (by omega)
        have hrun := append_run (P := P) (w := w) (a := a) (o := o) hop hc ha hat (by rw [hxe, hxv, hv]; exact hr)
        have h' := h.ready (w' := w.drew) rfl rfl rfl rfl
        have hge := grownCap_ge w ys.length 0 e
        obtain ⟨G', hG⟩ := h'.putRow (d := d) (sz := i.size) (cap := grownCap w ys.length 0 e) (cells := vs.toArray ++ Builtin.zeroCells z.cells (grownCap w ys.length 0 e - ys.length)) (e := e) (xs := ys) hd
          (by simp only [Array.size_append, List.size_toArray, size_zeroCells, hzs, hvl]; rw [← Nat.add_mul]; congr 1; omega) hge (grownCap_le_maxLen w _ _ e (by omega)) hysz hyok
          (by
            have : ((vs.toArray ++ Builtin.zeroCells z.cells (grownCap w ys.length 0 e - ys.length)).toList.take (ys.length * i.size)) = vs := by
              rw [Array.toList_append, List.take_append_of_le_length (by simp; omega)]
              simp [← hvl]
            rw [this]; exact hyr) l
        exact ⟨G', _, _, hrun, hG⟩
      · by_cases hroom : xs.length + ys.length ≤ cap'
        · -- there is room
          have hfit : xs.length * i.size + vs.length ≤ cur.size := by rw [hvl, hcs, ← Nat.add_mul]; exact Nat.mul_le_mul_right _ hroom
          have h1c := RepL.one hyr hyok
          have hf := run_firstCells_some (P := P) w i.size ys.length ⟨b, off, none⟩ ys.length cap vs hvl hnews
          have hst := run_storeCells_at P g (xs.length * i.size) e' vs 0 cur w hheap (by simpa using hfit) h1c
          simp only [Nat.add_zero] at hst
          have hr : (Builtin.append_ #[t, t] o.type #[.slice (some ⟨g, 0, none⟩) xs.length cap', .slice (some ⟨b, off, none⟩) ys.length cap]).run P w =
              .ok (.slice (some ⟨g, 0, none⟩) (xs.length + ys.length) cap') (w.setRow g (cur.toList.take (xs.length * i.size) ++ vs ++ cur.toList.drop (xs.length * i.size + vs.length)).toArray) := by
            simp [Builtin.append_, run_underlying ht, sizeOf, typeInfo, hi, Builtin.lenOf, hroom, hf, Addr.add_lit, hst]
          have hrun := append_run (P := P) (w := w) (a := a) (o := o) hop hc ha hat (by rw [hxe, hxv, hv]; exact hr)
          have hfl := flat_length (sz := i.size) (xs := xs)
          rcases (show (∃ b2 off2 cap2 vs2, a.tmps.getD n Go.undef = .slice (some ⟨b2, off2, none⟩) xs.length cap2 ∧ xs.length ≤ cap2 ∧ (∀ x ∈ xs, x.cells.length = i.size) ∧ (∀ c ∈ flat xs, okc c = true) ∧ (∀ j u, vs2[j]? = some u → G.K b2 (off2 + j) = some u) ∧ RepL G.K vs2 (flat xs)) from by
            rcases hxl with ⟨rfl, _⟩ | hh
            · exact ⟨g, 0, cap', [], by simpa using hxv, by simp, by simp, by simp [flat], by simp, by simp [flat]; exact .nil⟩
            · exact hh) with ⟨b2, off2, cap2, vs2, hxv2, _, hxsz, hxok, hxK, hxrr⟩
          · rw [hxv] at hxv2
            simp only [Value.slice.injEq, Option.some.injEq, Addr.mk.injEq, true_and] at hxv2
            obtain ⟨⟨rfl, rfl, _⟩, rfl⟩ := hxv2
            have hv2l : vs2.length = xs.length * i.size := by rw [hxrr.length, flat_length hxsz]
            have htake : cur.toList.take (xs.length * i.size) = vs2 := by
              apply List.ext_getElem?
              intro q
              rw [List.getElem?_take]
              split
              · rename_i hq
                have hq' : q < vs2.length := by omega
                have h2 := h.inv.kh _ _ _ (hxK q _ (List.getElem?_eq_getElem hq'))
                rw [cell_of_heap hheap, Nat.zero_add] at h2
                rw [List.getElem?_eq_getElem hq', ← h2]
                simp
              · rename_i hq
                rw [List.getElem?_eq_none (by omega)]
            have hall : ∀ q ∈ xs ++ ys, q.cells.length = i.size := fun q hq => (List.mem_append.1 hq).elim (hxsz q) (hysz q)
            have hokk : ∀ c ∈ flat (xs ++ ys), okc c = true := fun c hc' => by
              rw [flat_append] at hc'
              exact (List.mem_append.1 hc').elim (hxok c) (hyok c)
            obtain ⟨G', hG⟩ := h.putGrow (d := d) (ys := ys) (cells := (cur.toList.take (xs.length * i.size) ++ vs ++ cur.toList.drop (xs.length * i.size + vs.length)).toArray)
              (sw := w.setRow g (cur.toList.take (xs.length * i.size) ++ vs ++ cur.toList.drop (xs.length * i.size + vs.length)).toArray) hd hx hphi hheap hKn (setRow_eq hheap) rfl rfl rfl
              (by simp only [List.size_toArray, List.length_append, List.length_take, List.length_drop, Array.length_toList]; rw [← hcs]; omega) (by rw [List.length_append]; exact hroom) hcm
              (by
                rw [List.append_assoc, List.take_append_of_le_length (by rw [List.length_take]; simp; omega)]
                rw [List.take_take, Nat.min_self]) hall hokk
              (by
                have e1 : ((cur.toList.take (xs.length * i.size) ++ vs ++ cur.toList.drop (xs.length * i.size + vs.length)).toArray.toList.take ((xs ++ ys).length * i.size)) = vs2 ++ vs := by
                  rw [htake]
                  simp only [List.length_append, Nat.add_mul]
                  rw [List.take_left' (by simp [hv2l, hvl])]
                rw [e1, flat_append]
                exact hxrr.append hyr) l hl
            rw [List.length_append] at hG
            exact ⟨G', _, _, hrun, hG⟩
        · -- a new row
          rcases (show (∃ b2 off2 cap2 vs2, a.tmps.getD n Go.undef = .slice (some ⟨b2, off2, none⟩) xs.length cap2 ∧ xs.length ≤ cap2 ∧ (∀ x ∈ xs, x.cells.length = i.size) ∧ (∀ c ∈ flat xs, okc c = true) ∧ (∀ j u, vs2[j]? = some u → G.K b2 (off2 + j) = some u) ∧ RepL G.K vs2 (flat xs)) from by
            rcases hxl with ⟨rfl, _⟩ | hh
            · exact ⟨g, 0, cap', [], by simpa using hxv, by simp, by simp, by simp [flat], by simp, by simp [flat]; exact .nil⟩
            · exact hh) with ⟨b2, off2, cap2, vs2, hxv2, _, hxsz, hxok, hxK, hxrr⟩
          · rw [hxv] at hxv2
            simp only [Value.slice.injEq, Option.some.injEq, Addr.mk.injEq, true_and] at hxv2
            obtain ⟨⟨rfl, rfl, _⟩, rfl⟩ := hxv2
            have hv2l : vs2.length = xs.length * i.size := by rw [hxrr.length, flat_length hxsz]
            have hr := run_append_grow (P := P) w t o.type e i z ht hi hz ⟨g, 0, none⟩ xs.length cap' vs2 hv2l (row_there h.inv hxK) ⟨b, off, none⟩ ys.length cap vs hvl hnews (by omega) (by omega) (growslice_fits (by omega) hb1)
            have hrun := append_run (P := P) (w := w) (a := a) (o := o) hop hc ha hat (by rw [hxe, hxv, hv]; exact hr)
            have h' := h.ready (w' := w.drew) rfl rfl rfl rfl
            have hge := grownCap_ge w (xs.length + ys.length) cap' e
            have hall : ∀ q ∈ xs ++ ys, q.cells.length = i.size := fun q hq => (List.mem_append.1 hq).elim (hxsz q) (hysz q)
            have hokk : ∀ c ∈ flat (xs ++ ys), okc c = true := fun c hc' => by
              rw [flat_append] at hc'
              exact (List.mem_append.1 hc').elim (hxok c) (hyok c)
            obtain ⟨G', hG⟩ := h'.putRow (d := d) (sz := i.size) (cap := grownCap w (xs.length + ys.length) cap' e) (cells := vs2.toArray ++ vs.toArray ++ Builtin.zeroCells z.cells (grownCap w (xs.length + ys.length) cap' e - (xs.length + ys.length))) (e := e) (xs := xs ++ ys) hd
              (by simp only [Array.size_append, List.size_toArray, size_zeroCells, hzs, hvl, hv2l]; rw [← Nat.add_mul, ← Nat.add_mul]; congr 1; omega) (by rw [List.length_append]; exact hge) (grownCap_le_maxLen w _ _ e (by omega)) hall hokk
              (by
                have : ((vs2.toArray ++ vs.toArray ++ Builtin.zeroCells z.cells (grownCap w (xs.length + ys.length) cap' e - (xs.length + ys.length))).toList.take ((xs ++ ys).length * i.size)) = vs2 ++ vs := by
                  simp only [Array.toList_append, List.length_append, Nat.add_mul]
                  rw [List.take_left' (by simp [hv2l, hvl])]
                rw [this, flat_append]
                exact hxrr.append hyr) l
            rw [List.length_append] at hG
            exact ⟨G', _, _, hrun, hG⟩

theorem chunk_length (sz : Nat) : ∀ (n : Nat) (cs : List V), (chunk sz n cs).length = n
  | 0, _ => rfl
  | n + 1, cs => by simp [chunk, chunk_length sz n]

theorem chunk_flat {sz : Nat} (hsz : 0 < sz) : ∀ (n : Nat) (cs : List V), cs.length = n * sz → (∀ c ∈ cs, okc c = true) → flat (chunk sz n cs) = cs ∧ ∀ x ∈ chunk sz n cs, x.cells.length = sz
  | 0, cs, h, _ => by
    have : cs = [] := List.eq_nil_of_length_eq_zero (by simpa using h)
    subst this
    simp [chunk, flat]
  | n + 1, cs, h, hok => by
    rw [Nat.add_mul, Nat.one_mul] at h
    obtain ⟨h1, h2⟩ := chunk_flat hsz n (cs.drop sz) (by rw [List.length_drop]; omega) (fun c hc => hok c (List.mem_of_mem_drop hc))
    have hhead : (if sz = 1 then cs.headD .junk else .agg (cs.take sz)).cells = cs.take sz := by
      by_cases h1 : sz = 1
      · subst h1
        cases cs with
        | nil => simp at h
        | cons c r =>
          simp only [if_true, List.headD_cons, List.take_succ_cons, List.take_zero]
          exact okc_cells (hok c (by simp))
      · rw [if_neg h1]; rfl
    refine ⟨?_, fun x hx => ?_⟩
    · simp only [chunk, flat, hhead, h1, List.take_append_drop]
    · simp only [chunk, List.mem_cons] at hx
      rcases hx with rfl | hx
      · rw [hhead, List.length_take]; omega
      · exact h2 x hx

theorem bslice_sound {o : Oper} {t e : TypeId} {len : Nat} {parts : Array (Nat × Operand)} {i : TypeInfo} {z : Value} {sz n : Nat} {zero : List V} {ps : List (Nat × Nat)} {args : List AArg} {r : V} (hop : o.op = .buildSlice t len parts)
    (ht : P.underlying t = some (.slice e)) (hi : P.info? e = some i) (hsz : i.size = sz) (hpos : 0 < sz) (hn : 0 < n) (hln : len = n) (hsm : n * sz ≤ 16777216) (hz : i.zero = some z)
    (hzr : repCs ((Array.range (len * i.size)).map (z.cells[· % z.cells.size]!)).toList zero = true) (hzl : zero.length = n * sz) (hps : (parts.toList.map fun p => (p.1 * sz, sz)) = ps)
    (h : FInv G0 w0 L N G a s w) {d : Nat} (hd : d < N) (ha : okArgs (parts.toList.map (·.2)) args = true) (hr : rBslice sz n zero ps (args.map (readArg s.env)) = some r) (l : List AArg) :
    ∃ G' cv w', (execOp a.eval o).run P w = .ok (.value cv) w' ∧ FInv G0 w0 L N G' (a.put (some d) cv) { s with env := putO (stripTakes s.env l) (some d) r } w' := by
  subst hsz hln
  unfold rBslice at hr
  split at hr
  · rename_i hdat
    obtain ⟨cs, hf, hr⟩ := Option.map_eq_some_iff.1 hr
    subst hr
    obtain ⟨hz1, hz2⟩ := repCs_sound (K := G.K) hzr
    have hargs := h.reads ha
    obtain ⟨cells, h1, h2, h3, h4⟩ := fill_rep (G := G) (fun j => some (j * i.size, i.size)) (parts.map fun (j, x) => (j, a.eval x)).toList ps (args.map (readArg s.env)) _ zero cs
      (by rw [Array.toList_map, List.map_map, ← hps, List.map_map]; rfl) (by rw [Array.toList_map, List.map_map]; rw [List.map_map] at hargs; exact hargs) hdat hz1 hz2 hf
    have hcl : cs.length = len * i.size := by rw [h4, hzl]
    have hcz : cells.size = len * i.size := by have := h2.length; simp only [Array.length_toList] at this; omega
    obtain ⟨hfl, hel⟩ := chunk_flat hpos len cs hcl h3
    have hrun : (execOp a.eval o).run P w = .ok (.value (.slice (some ⟨w.heap.size, 0, none⟩) len len)) (w.alloc (.cells cells e)) := by
      unfold execOp
      rw [hop]
      exact vrun (run_buildSlice w t e len _ cells i z ht hi hz (by omega) (by intro h0; rcases Nat.mul_eq_zero.1 h0 with h0 | h0 <;> omega) h1)
    obtain ⟨G', hG⟩ := h.putRow (d := d) (sz := i.size) (cap := len) (cells := cells) (e := e) (xs := chunk i.size len cs) hd hcz (by rw [chunk_length]; exact Nat.le_refl _)
      (by unfold maxLen; have := Nat.le_mul_of_pos_right len hpos; omega) hel (by rw [hfl]; exact h3)
      (by rw [chunk_length, hfl, List.take_of_length_le (by simp; omega)]; exact h2) l
    rw [chunk_length] at hG
    exact ⟨G', _, _, hrun, hG⟩
  · cases hr

theorem okc_dataCell {c : V} {l : Nat} (h : okc c = true) : dataCell l c = true := by
  cases c <;> simp [okc, V.isOneCell, isLocal, dataCell] at h ⊢ <;> exact h

theorem dataCell_one {v : Value} {c : V} {l : Nat} (hs : SRep G v c) (h : dataCell l c = true) : v.oneCell' = true := by
  cases hs with
  | data r => cases r <;> first | rfl | (simp [dataCell] at h)
  | ptr => rfl
  | func => rfl

theorem dataCells_one {l : Nat} : ∀ {vs : List Value} {xs : List V}, SRepL G vs xs → (∀ c ∈ xs, dataCell l c = true) → ∀ u ∈ vs, u.oneCell' = true
  | _, _, .nil, _, u, hu => by cases hu
  | _, _, .cons r rs, h, u, hu => by
    rcases List.mem_cons.1 hu with rfl | hu
    · exact dataCell_one r (h _ (by simp))
    · exact dataCells_one rs (fun c hc => h c (by simp [hc])) u hu

/-- A value's cells, as what it stands for has them. -/
theorem cells_rep {v : Value} {x : V} {l : Nat} (h : SRep G v x) (hx : x.cells.all (dataCell l) = true) : SRepL G v.cells.toList x.cells := by
  cases x with
  | agg cs =>
    obtain ⟨vs, rfl, _, hr⟩ := h.agg_inv
    simpa [Value.cells, V.cells] using hr.toS
  | _ =>
    have h1 := dataCell_one (l := l) h (by simpa [V.cells] using hx)
    rw [oneCell_cells h1]
    exact .cons h .nil

theorem store_sound {o : Oper} {t : TypeId} {x y : Operand} {i : TypeInfo} {n : Nat} {args : List AArg} {r : V} {m : Mem} {d : Option Nat} (hop : o.op = .store t x y) (hi : P.info? t = some i) (hn : i.size = n)
    (h : FInv G0 w0 L N G a s w) (ha : okArgs [x, y] args = true) (hr : rStore n d (args.map (readArg s.env)) s.mem = some (r, m)) :
    ∃ w', (execOp a.eval o).run P w = .ok .skip w' ∧ d = none ∧ ∀ v, FInv G0 w0 L N G (a.put none v) { env := putO (stripTakes s.env args) none r, mem := m } w' := by
  unfold rStore at hr
  split at hr
  · rename_i l k off xv he
    have hargs := h.reads ha
    rw [he] at hargs
    simp only [List.map_cons, List.map_nil] at hargs
    obtain ⟨_, _, hh, hp, hv⟩ := hargs.two
    cases hh
    obtain ⟨b, ⟨hlt, hlam⟩, hpe⟩ := hp.ptr_inv
    obtain ⟨cs, hm, hr⟩ := bind_some_iff.1 hr
    split at hr
    · rename_i hh
      obtain ⟨h1, h2, h3⟩ := hh
      injection hr with hr
      injection hr with hr1 hr2
      subst hr1 hr2
      have hbox := h.inv.mem l k cs hm
      obtain ⟨b', cur, e, c1, c2, c3, c4, c5⟩ := hbox.ex
      rw [hlam] at c1
      cases c1
      have hcr := cells_rep hv h3
      have hcl := hcr.length
      simp only [Array.length_toList] at hcl
      have hcur := c4.length
      simp only [Array.length_toList] at hcur
      have hdc : ∀ c ∈ xv.cells, dataCell l c = true := by simpa using h3
      have h1c := dataCells_one hcr hdc
      have hst := run_storeCells_at P b off e (a.eval y).cells.toList 0 cur w c3 (by simp; omega) h1c
      simp only [Nat.add_zero] at hst
      have hsz : (sizeOf t).run P w = .ok n w := by simp [sizeOf, run_info hi, hn]
      have hrun : (execOp a.eval o).run P w = .ok .skip (w.setRow b (cur.toList.take off ++ (a.eval y).cells.toList ++ cur.toList.drop (off + (a.eval y).cells.toList.length)).toArray) := by
        unfold execOp
        rw [hop]
        simp only [Instr.storeAt, hpe, Instr.sureAddr, Sem.run_bind, Sem.run_pure, Result.andThen_ok, storeVar, hsz]
        rw [if_neg (by rw [hcl, h1]; simp)]
        simp only [Result.andThen_ok, hst]
      refine ⟨_, hrun, rfl, fun v => ?_⟩
      refine h.putStore (mget_lt hm) hm hlam c2 c3 c5 (setRow_eq c3) rfl rfl rfl ?_ ?_ args v
      · simp only
        unfold spliceAt
        rw [hcr.length]
        exact ((c4.take off).append hcr).append (c4.drop _)
      · intro c hc
        simp only [spliceAt, List.mem_append] at hc
        rcases hc with (hc | hc) | hc
        · exact hbox.dc c (List.mem_of_mem_take hc)
        · exact hdc c hc
        · exact hbox.dc c (List.mem_of_mem_drop hc)
    · cases hr
  · cases hr

theorem newBox_sound {o : Oper} {v : Value} {e : TypeId} {cs : List V} {r : V} {m : Mem} {d : Option Nat} (hrun : (execOp a.eval o).run P w = .ok (.value (.pointer (some ⟨w.heap.size, 0, none⟩))) (w.alloc (.cells v.cells e)))
    (h : FInv G0 w0 L N G a s w) (hN : ∀ t, d = some t → t < N) (hrep : (∀ l, cs.all (dataCell l) = true → SRepL G v.cells.toList cs)) (hr : newBox cs d s.mem = some (r, m)) (l : List AArg) :
    ∃ G' cv w', (execOp a.eval o).run P w = .ok (.value cv) w' ∧ FInv G0 w0 L N G' (a.put d cv) { env := putO (stripTakes s.env l) d r, mem := m } w' := by
  unfold newBox at hr
  split at hr
  · rename_i d b m' hmem
    split at hr
    · rename_i hb
      split at hr
      · rename_i hall
        injection hr with hr
        injection hr with hr1 hr2
        subst hr1 hr2
        have hL : m'.length = L := by have := h.lvl; rw [hmem] at this; simpa using this
        obtain ⟨G', hG⟩ := h.putBox (d := d) (cells := v.cells) (e := e) (cs := cs) (b0 := b) (m := m') (hN d rfl) hmem hb (hrep _ hall) (by rw [← hL]; simpa using hall) l
        exact ⟨G', _, _, hrun, hG⟩
      · cases hr
    · cases hr
  · cases hr

theorem okArgs_one {x : Operand} {args : List AArg} (h : okArgs [x] args = true) : ∃ ar, args = [ar] ∧ okArg x ar = true := by
  match args, h with
  | [ar], h => exact ⟨ar, rfl, by simpa [okArgs] using h⟩
  | [], h => simp [okArgs] at h
  | _ :: _ :: _, h => simp [okArgs] at h

theorem okArgs_two {x y : Operand} {args : List AArg} (h : okArgs [x, y] args = true) : ∃ ar br, args = [ar, br] ∧ okArg x ar = true ∧ okArg y br = true := by
  match args, h with
  | [ar, br], h => exact ⟨ar, br, rfl, by simpa [okArgs] using h⟩
  | [], h => simp [okArgs] at h
  | [_], h => simp [okArgs] at h
  | _ :: _ :: _ :: _, h => simp [okArgs] at h

theorem repC_list {v : Value} {sz : Nat} {xs : List V} {o : Bool} (h : repC v (.list sz xs o) = true) : v = .slice none 0 0 ∧ xs = [] := by
  cases v <;> simp [repC] at h
  rename_i b n c
  cases b <;> cases xs <;> simp at h ⊢
  exact h

/-- An owned operand: a slot that is taken, or the constant nil. -/
theorem owned_arg {x : Operand} {ar : AArg} (hk : okArg x ar = true) {sz : Nat} {xs : List V} (hx : readArg s.env ar = .list sz xs true) :
    (∃ n, ar = .k n ∧ get s.env n = .list sz xs true ∧ a.eval x = a.tmps.getD n Go.undef) ∨ (xs = [] ∧ a.eval x = .slice none 0 0) := by
  unfold okArg at hk
  split at hk
  · exact absurd hx (strip_own _ _ _)
  · simp at hk; subst hk
    exact .inl ⟨_, rfl, hx, rfl⟩
  · simp [readArg] at hx
  · simp only [readArg] at hx
    subst hx
    obtain ⟨h1, h2⟩ := repC_list hk
    exact .inr ⟨h2, h1⟩
  · simp [readArg] at hx
  · cases hk

theorem mv_sound {o : Oper} {x : Operand} {ao : AOp} {r : V} (_hrun : (execOp a.eval o).run P w = .ok (.value (a.eval x)) w) (h : FInv G0 w0 L N G a s w) (hN : ∀ t, ao.dst = some t → t < N) (hk : okArgs [x] ao.args = true)
    (hr : rMv (ao.args.map (readArg s.env)) = some r) : ∃ G', FInv G0 w0 L N G' (a.put ao.dst (a.eval x)) { s with env := putO (stripTakes s.env ao.args) ao.dst r } w := by
  obtain ⟨ar, har, hk⟩ := okArgs_one hk
  rw [har] at hr ⊢
  simp only [List.map_cons, List.map_nil, rMv, Option.some.injEq] at hr
  have hrep := okArg_sound h.slots hk
  rw [hr] at hrep
  by_cases ho : notOwn r
  · exact ⟨G, h.putPure hN hrep ho _⟩
  · obtain ⟨sz, xs, hx⟩ : ∃ sz xs, r = .list sz xs true := by
      simp only [notOwn, Classical.not_forall] at ho
      obtain ⟨sz, xs, h1⟩ := ho
      exact ⟨sz, xs, Classical.not_not.1 h1⟩
    rw [hx] at hr hrep ⊢
    rcases owned_arg (a := a) hk hr with ⟨n, rfl, h1, h2⟩ | ⟨rfl, h2⟩
    · cases hd : ao.dst with
      | none =>
        refine ⟨G, ?_⟩
        exact h.putOwn (d := none) (by simp) hrep (fun t ht => by cases ht) _
      | some d =>
        rw [h2]
        exact ⟨_, h.putMove (hN d hd) h1 [.k n] (by simp)⟩
    · refine ⟨G, h.putOwn hN hrep (fun t _ sz' xs' hh => ?_) _⟩
      cases hh
      exact .inl ⟨h2, rfl⟩

/-- What follows the operation holds behind whatever the invariant allows. -/
theorem op_sound (hS : Sound P call) {o : Oper} {ao : AOp} (hdst : ao.dst = o.dst) (hN : ∀ t, ao.dst = some t → t < N) (hD : needsDst ao.pr = true → ao.dst ≠ none)
    (hk : okPrim P o.op ao.args ao.pr = true) (h : FInv G0 w0 L N G a s w) {s' : St} (hx : ao.exec call s = some s') {next : Act → World → Prop} {Q : Exit → Act → World → Prop}
    (hn : ∀ G' a' w', FInv G0 w0 L N G' a' s' w' → next a' w') : o.wp P a w next Q := by
  unfold AOp.exec at hx
  obtain ⟨⟨r, m⟩, hrun, rfl⟩ := Option.map_eq_some_iff.1 hx
  have value : ∀ {cv : Value} {w' : World}, (execOp a.eval o).run P w = .ok (.value cv) w' → next (a.put ao.dst cv) w' → o.wp P a w next Q := by
    intro cv w' h1 h2
    unfold Oper.wp
    rw [h1, Oper.upon_value, ← hdst]
    exact h2
  have plain : ao.pr.plain = true → runP ao.pr (ao.args.map (readArg s.env)) = some r → m = s.mem → o.wp P a w next Q := by
    intro hp h1 hm
    obtain ⟨cv, h2, h3, h4⟩ := plain_sound h.inv h.reads hp hk h1
    refine value h2 (hn G _ _ ?_)
    have := h.putPure hN h3 h4 ao.args
    rw [hm]; exact this
  have kind0 : ao.pr.kind = 0 → runP ao.pr (ao.args.map (readArg s.env)) = some r ∧ m = s.mem := by
    intro h0
    simp only [Prim.run, h0] at hrun
    obtain ⟨y, hy, h1⟩ := Option.map_eq_some_iff.1 hrun
    simp only [Prod.mk.injEq] at h1
    obtain ⟨rfl, rfl⟩ := h1
    exact ⟨hy, rfl⟩
  have kind2 : ao.pr.kind = 2 → runW call ao.pr ao.dst (ao.args.map (readArg s.env)) s.mem = some (r, m) := by
    intro h0
    unfold Prim.run at hrun
    split at hrun
    · rename_i h1; omega
    · rename_i h1; omega
    · rename_i h1; omega
    · exact hrun
  cases hpr : ao.pr with
  | mv =>
    rw [hpr] at hk kind0
    obtain ⟨h1, rfl⟩ := kind0 rfl
    simp only [okPrim] at hk
    split at hk
    · rename_i x hop
      have hr : (execOp a.eval o).run P w = .ok (.value (a.eval x)) w := by unfold execOp; rw [hop]; rfl
      obtain ⟨G', hG⟩ := mv_sound hr h hN hk h1
      exact value hr (hn G' _ _ hG)
    · rename_i x hop
      have hr : (execOp a.eval o).run P w = .ok (.value (a.eval x)) w := by unfold execOp; rw [hop]; rfl
      obtain ⟨G', hG⟩ := mv_sound hr h hN hk h1
      exact value hr (hn G' _ _ hG)
    · cases hk
  | append sz bytes =>
    rw [hpr] at hk kind0
    obtain ⟨h1, rfl⟩ := kind0 rfl
    simp only [okPrim] at hk
    split at hk
    · rename_i c hop
      split at hk
      · rename_i x y t u hc ha hat
        simp only [Bool.and_eq_true] at hk
        obtain ⟨⟨happ, hkk⟩, hk⟩ := hk
        unfold isAppend at happ
        simp only [Bool.and_eq_true, decide_eq_true_eq] at happ
        obtain ⟨rfl, happ⟩ := happ
        split at happ
        · rename_i e hu
          split at happ
          · rename_i i hi
            simp only [Bool.and_eq_true, beq_iff_eq, decide_eq_true_eq] at happ
            obtain ⟨⟨⟨h2, h3⟩, h4⟩, h5⟩ := happ
            split at h5
            · rename_i z hz
              obtain ⟨ar, br, hargs, ka, kb⟩ := okArgs_two hk
              rw [hargs] at h1
              simp only [runP, List.map_cons, List.map_nil] at h1
              unfold rAppend at h1
              split at h1
              · rename_i sz1 xs sz2 ys own heq
                simp only [List.cons.injEq, and_true] at heq
                obtain ⟨hxe, hye⟩ := heq
                split at h1
                · rename_i hc4
                  obtain ⟨rfl, rfl, hb1, hb2⟩ := hc4
                  injection h1 with h1
                  subst h1
                  have hy := okArg_sound h.slots kb
                  rw [hye] at hy
                  cases hd : ao.dst with
                  | none => rw [hpr] at hD; exact absurd hd (hD rfl)
                  | some d =>
                    have hark : ∃ n, ar = .k n := by
                      rw [hargs] at hkk
                      cases ar <;> simp [isK] at hkk
                      exact ⟨_, rfl⟩
                    obtain ⟨n0, rfl⟩ := hark
                    rcases owned_arg (a := a) ka hxe with ⟨n, hnn, hx1, hx2⟩ | ⟨rfl, hx2⟩
                    · cases hnn
                      obtain ⟨G', cv, w', hr, hG⟩ := append_sound hop hc (toList_two ha) (toList_two hat) hu hi h2 h3 h4 hz (by simpa using h5) h (hN d hd) hx1 hx2 hy hb1 hb2 ao.args (by rw [hargs]; simp)
                      refine value hr (hn G' _ _ ?_)
                      rw [hd]; exact hG
                    · have hown := h.own n0 _ _ hxe
                      obtain ⟨G', cv, w', hr, hG⟩ := append_sound hop hc (toList_two ha) (toList_two hat) hu hi h2 h3 h4 hz (by simpa using h5) h (hN d hd) hxe (by
                        unfold okArg at ka
                        split at ka <;> first | (rename_i heq; cases heq) | cases ka
                        simp at ka; subst ka; rfl) hy hb1 hb2 ao.args (by rw [hargs]; simp)
                      refine value hr (hn G' _ _ ?_)
                      rw [hd]; exact hG
                · cases h1
              · cases h1
            · cases h5
          · cases happ
        · cases happ
      · cases hk
    · cases hk
  | bslice sz n zero ps =>
    rw [hpr] at hk kind0
    obtain ⟨h1, rfl⟩ := kind0 rfl
    simp only [okPrim] at hk
    split at hk
    · rename_i t len parts hop
      simp only [Bool.and_eq_true, beq_iff_eq] at hk
      obtain ⟨⟨hb, hps⟩, hk⟩ := hk
      unfold isBslice at hb
      split at hb
      · rename_i e hu
        split at hb
        · rename_i i hi
          simp only [Bool.and_eq_true, beq_iff_eq, decide_eq_true_eq] at hb
          obtain ⟨⟨⟨⟨⟨b1, b2⟩, b3⟩, b4⟩, b5⟩, b6⟩ := hb
          split at b6
          · rename_i z hz
            simp only [Bool.and_eq_true, beq_iff_eq] at b6
            cases hd : ao.dst with
            | none => rw [hpr] at hD; exact absurd hd (hD rfl)
            | some d =>
              obtain ⟨G', cv, w', hr, hG⟩ := bslice_sound hop hu hi b1 b2 b3 b4 b5 hz b6.1 b6.2 hps h (hN d hd) hk h1 ao.args
              refine value hr (hn G' _ _ ?_)
              rw [hd]; exact hG
          · cases b6
        · cases hb
      · cases hb
    · cases hk
  | load n =>
    have hk1 : ao.pr.kind = 1 := by rw [hpr]; rfl
    simp only [Prim.run, hk1] at hrun
    split at hrun
    · rename_i v hv
      injection hrun with hrun
      injection hrun with e1 e2
      subst e1 e2
      exact plain (by rw [hpr]; rfl) hv rfl
    · rw [hpr] at hk hrun
      obtain ⟨y, hy, h1⟩ := Option.map_eq_some_iff.1 hrun
      injection h1 with e1 e2
      subst e1 e2
      simp only [okPrim] at hk
      split at hk
      · rename_i t x hop
        simp only [Bool.and_eq_true] at hk
        obtain ⟨j, d, c1, c2, c3⟩ := varD hk.1
        simp only [runR] at hy
        unfold rLoadB at hy
        split at hy
        · rename_i l k off he
          have hargs := h.reads hk.2
          rw [he] at hargs
          obtain ⟨_, hh, hp⟩ := SRepL.one hargs
          simp only [List.map_cons, List.map_nil, List.cons.injEq, and_true] at hh
          subst hh
          obtain ⟨b, ⟨hlt, hlam⟩, hpe⟩ := hp.ptr_inv
          obtain ⟨cs, hm, hy⟩ := bind_some_iff.1 hy
          split at hy
          case isFalse => cases hy
          rename_i hall
          have hbox := h.inv.mem l k cs hm
          obtain ⟨b', cur, e, d1, d2, d3, d4, d5⟩ := hbox.ex
          rw [hlam] at d1
          cases d1
          have hrd := d4.drop off
          have hcell : ∀ i u, (cur.toList.drop off)[i]? = some u → w.cell? ⟨b, off + i, none⟩ = some u := by
            intro i u hu
            rw [List.getElem?_drop] at hu
            rw [cell_of_heap d3]; simpa using hu
          have main : (n ≠ none → ∀ c ∈ cs.drop off, okc c = true) → o.wp P a w next Q := by
            intro hokk
            obtain ⟨cv, e1, e2⟩ := s_loadAt (P := P) (w := w) c1 c2 c3 hcell hrd hy hokk
            have hr : (execOp a.eval o).run P w = .ok (.value cv) w := by unfold execOp; rw [hop]; rw [← hpe] at e1; exact vrun e1
            refine value hr (hn G _ _ ?_)
            exact h.putPure hN e2 (loadV_notOwn hy) ao.args
          cases n with
          | none => exact main (by simp)
          | some k' =>
            exact main (fun _ => by simpa using hall)
        · cases hy
      · cases hk
  | store n =>
    have h1 := kind2 (by rw [hpr]; rfl)
    rw [hpr] at hk h1
    simp only [okPrim] at hk
    split at hk
    · rename_i t x y hop
      simp only [Bool.and_eq_true] at hk
      obtain ⟨hi0, hk⟩ := hk
      split at hi0
      · rename_i i hi
        obtain ⟨w', hr, hd, hG⟩ := store_sound hop hi (by simpa using hi0) h hk h1
        unfold Oper.wp
        rw [hr, Oper.upon_skip, ← hdst, hd]
        have := hG Go.undef
        refine hn G _ _ ?_
        rw [hd]
        exact this
      · cases hi0
    · cases hk
  | alloc zero =>
    have h1 := kind2 (by rw [hpr]; rfl)
    rw [hpr] at hk h1
    simp only [okPrim] at hk
    split at hk
    · rename_i t hop
      simp only [Bool.and_eq_true] at hk
      obtain ⟨hz, hk⟩ := hk
      unfold zeroIs at hz
      split at hz
      · rename_i i hi
        split at hz
        · rename_i z hzz
          replace h1 : rAlloc zero ao.dst (ao.args.map (readArg s.env)) s.mem = some (r, m) := h1
          unfold rAlloc at h1
          split at h1
          · have hrun' : (execOp a.eval o).run P w = .ok (.value (.pointer (some ⟨w.heap.size, 0, none⟩))) (w.alloc (.cells z.cells t)) := by
              unfold execOp
              rw [hop]
              exact vrun (by simp [Instr.alloc, zeroValue, run_info hi, hzz, newVar, newRow])
            obtain ⟨G', cv, w', hr, hG⟩ := newBox_sound hrun' h hN (fun _ _ => (repCs_sound (K := G.K) hz).1.toS) h1 ao.args
            exact value hr (hn G' _ _ hG)
          · cases h1
        · cases hz
      · cases hz
    · cases hk
  | box =>
    have h1 := kind2 (by rw [hpr]; rfl)
    rw [hpr] at hk h1
    simp only [okPrim] at hk
    split at hk
    · rename_i t x hop
      replace h1 : rBox ao.dst (ao.args.map (readArg s.env)) s.mem = some (r, m) := h1
      unfold rBox at h1
      split at h1
      · rename_i xv he
        have hargs := h.reads hk
        rw [he] at hargs
        obtain ⟨_, hh, hp⟩ := SRepL.one hargs
        simp only [List.map_cons, List.map_nil, List.cons.injEq, and_true] at hh
        subst hh
        have hrun' : (execOp a.eval o).run P w = .ok (.value (.pointer (some ⟨w.heap.size, 0, none⟩))) (w.alloc (.cells (a.eval x).cells t)) := by
          unfold execOp
          rw [hop]
          exact vrun (by simp [Instr.box, newVar, newRow])
        obtain ⟨G', cv, w', hr, hG⟩ := newBox_sound hrun' h hN (fun l hl => cells_rep hp hl) h1 ao.args
        exact value hr (hn G' _ _ hG)
      · cases h1
    · cases hk
  | call f =>
    have h1 := kind2 (by rw [hpr]; rfl)
    rw [hpr] at hk h1
    replace h1 : rCall call f ao.dst (ao.args.map (readArg s.env)) s.mem = some (r, m) := h1
    unfold rCall at h1
    split at h1
    · rename_i d hd
      obtain ⟨⟨v1, m1⟩, h2, h3⟩ := Option.map_eq_some_iff.1 h1
      injection h3 with e1 e2
      subst e1 e2
      simp only [okPrim] at hk
      split at hk
      · rename_i c hop
        split at hk
        · rename_i f' hc
          simp only [Bool.and_eq_true, decide_eq_true_eq] at hk
          obtain ⟨rfl, hk⟩ := hk
          obtain ⟨hcl, hcall⟩ := hS _ _ _ _ _ h2
          have hr := call_run (a := a) (w := w) (f := f) (x := .func f) (fs := #[]) (cs := #[]) hop hc rfl hcl
          unfold Oper.wp
          rw [hr, Oper.upon_enter]
          refine (hcall G w _ h.inv (fun b l t hb => by have := h.fresh b l t hb; have := h.lvl; omega) (by simpa using h.reads hk)).mono ?_
          rintro e w1 ⟨cv, G1, rfl, p1, p2, p3, p4, hml⟩
          have hF := h.called hml p2 p3 p4
          have := hF.putPure (d := ao.dst) hN p1.strip (fun sz xs => strip_own _ sz xs) ao.args
          rw [← hdst]
          exact hn G1 _ _ this
        · cases hk
      · cases hk
    · cases h1
  | callp f =>
    have hk3 : ao.pr.kind = 3 := by rw [hpr]; rfl
    simp only [Prim.run, hk3] at hrun
    obtain ⟨y, hy, h1⟩ := Option.map_eq_some_iff.1 hrun
    injection h1 with e1 e2
    subst e1 e2
    rw [hpr] at hk hy
    replace hy : rCallp call f (ao.args.map (readArg s.env)) = some y := hy
    unfold rCallp at hy
    split at hy
    · rename_i hloc
      obtain ⟨⟨v1, m1⟩, h2, h3⟩ := Option.map_eq_some_iff.1 hy
      simp only at h3
      subst h3
      simp only [okPrim] at hk
      split at hk
      · rename_i c hop
        split at hk
        · rename_i f' hc
          simp only [Bool.and_eq_true, decide_eq_true_eq] at hk
          obtain ⟨rfl, hk⟩ := hk
          obtain ⟨hcl, hcall⟩ := hS _ _ _ _ _ h2
          have hr := call_run (a := a) (w := w) (f := f) (x := .func f) (fs := #[]) (cs := #[]) hop hc rfl hcl
          unfold Oper.wp
          rw [hr, Oper.upon_enter]
          have hargs := (h.reads hk).noLocal (by simpa using hloc)
          refine (hcall { lv := 0, K := G.K, lam := G.lam, phi := fun _ => none } w _ ⟨rfl, h.inv.kh, fun l t cs hm => by simp [mget] at hm, fun l t hl _ => by simp at hl, h.inv.lamL, fun b hb => absurd rfl hb⟩ (fun b l t hb => by cases hb) (by simpa using hargs)).mono ?_
          rintro e w1 ⟨cv, G1, rfl, p1, p2, p3, p4, hml⟩
          rw [← hdst]
          have hm1 : m1 = [] := List.eq_nil_of_length_eq_zero hml
          subst hm1
          obtain ⟨G2, hG, hrep⟩ := h.calledPure (by simpa using p3) p2 p1
          have := hG.putPure (d := ao.dst) hN hrep.strip (fun sz xs => strip_own _ sz xs) ao.args
          exact hn G2 _ _ this
        · cases hk
      · cases hk
    · cases hy
  | callv =>
    have h1 := kind2 (by rw [hpr]; rfl)
    rw [hpr] at hk h1
    replace h1 : rCallv call ao.dst (ao.args.map (readArg s.env)) s.mem = some (r, m) := h1
    unfold rCallv at h1
    split at h1
    · rename_i d f first cap xs hd he
      obtain ⟨⟨v1, m1⟩, h2, h3⟩ := Option.map_eq_some_iff.1 h1
      injection h3 with e1 e2
      subst e1 e2
      simp only [okPrim] at hk
      split at hk
      · rename_i c hop
        split at hk
        · rename_i x hc
          obtain ⟨hcl, hcall⟩ := hS _ _ _ _ _ h2
          have hargs := h.reads hk
          rw [he] at hargs
          cases hargs with | cons hf hargs =>
          obtain ⟨fs, cs, hfe, hf1, hf2⟩ := hf.func_inv
          have hr := call_run (a := a) (w := w) (f := f) (x := x) hop hc hfe hcl
          unfold Oper.wp
          rw [hr, Oper.upon_enter]
          refine (hcall G w _ h.inv (fun b l t hb => by have := h.fresh b l t hb; have := h.lvl; omega) (by simpa using (hf1.append hargs).append hf2)).mono ?_
          rintro e w1 ⟨cv, G1, rfl, p1, p2, p3, p4, hml⟩
          have hF := h.called hml p2 p3 p4
          have := hF.putPure (d := ao.dst) hN p1.strip (fun sz xs => strip_own _ sz xs) ao.args
          rw [← hdst]
          exact hn G1 _ _ this
        · cases hk
      · cases hk
    · cases h1
  | appends => rw [hpr] at hk; simp [okPrim] at hk
  | s2b => rw [hpr] at hk; simp [okPrim] at hk
  | b2s => rw [hpr] at hk; simp [okPrim] at hk
  | _ =>
    obtain ⟨h1, h2⟩ := kind0 (by rw [hpr]; rfl)
    exact plain (by rw [hpr]; rfl) h1 h2

end
end Go.Proofs.Ytgggjclhadlncaa.Ev

/- The contracts of the library's functions hold, where the variables that they read are as they were laid. -/
import Derived.Test.YtpmpofcokkgfdaaGreatDoorPr
import Derived.Test.YtpmpofcokkgfdaaGreatDoorShelf
import Derived.Test.YtpmpofcokkgfdaaGreatDoorEv12
import Derived.Below
import Derived.Lib.SmallJoins
import Derived.Lib.SplitLaws
namespace Go.Proofs.YtpmpofcokkgfdaaGreatDoor.Ev
open Go Go.RowKit Go.Sort

/-- Of the older world nothing is turned: all that was known stands. -/
theorem below_keep {G : Gh} {w w' : World} {M : Mem} (hI : Inv G w M) (hb : Below w.heap.size w w') : Inv G w' M ∧ ∀ L, Ext L G w G w' := by
  have c : Chg (fun _ => False) G w G w' := ⟨rfl, fun _ _ _ h => h, fun _ _ _ h => h, hb.size, hb.os, hb.tape, hb.output, fun b hlt _ => ⟨hb.block b hlt, fun _ => rfl, rfl⟩⟩
  refine ⟨⟨hI.lv, hI.two, fun b o v hv => ?_, fun l t cs hm => c.box hI.lamL (hI.mem l t cs hm) (fun _ _ _ hf => hf), hI.lamBox, fun l t p hl => Nat.lt_of_lt_of_le (hI.lamL l t p hl) hb.size, fun b hb' => Nat.lt_of_lt_of_le (hI.phiL b hb') hb.size⟩, fun L => c.ext (Ext.refl _ _ _) (fun _ _ _ hf => hf) (fun _ _ _ _ _ h => h)⟩
  rw [cell_same (hb.block b (kh_lt hI.kh hv))]
  exact hI.kh b o v hv

section
variable {P : Program}

/-- A contract that gives a value which owns nothing. -/
theorem prim_plain [Base] {f : Nat} {xs : List V} {M : Mem} {r : V} (hc : callable P f = true)
    (h : ∀ (G : Gh) (w : World) (cargs : Array Value), Inv G w M → BaseOK G w → SRepL G cargs.toList xs → Calls P f cargs w fun e w' => ∃ v, e = .returned v ∧ SRep G v r ∧ Below w.heap.size w w') (hn : noClaim r) : CallsOK P f xs M r M :=
  ⟨hc, fun G w cargs hI hB hl hr => (h G w cargs hI hB hr).mono fun e w' ⟨v, he, hv, hb⟩ => by
    obtain ⟨i1, i2⟩ := below_keep hI hb
    exact ⟨v, G, he, hv, i1, i2 _, fun b o hb => .inl (hl b o hb), rfl, Claims.none hn⟩⟩

theorem flat_ones : ∀ {ys : List V}, (∀ y ∈ ys, okc y = true) → flat ys = ys
  | [], _ => rfl
  | y :: r, h => by
    rw [flat, okc_cells (h y (by simp)), flat_ones fun z hz => h z (by simp [hz])]
    rfl

/-- A contract that gives a new row. -/
theorem prim_row [Base] {f : Nat} {xs : List V} {M : Mem} {ys : List V} (hc : callable P f = true) (hlen : ys.length ≤ maxLen) (hone : ∀ y ∈ ys, okc y = true)
    (h : ∀ (G : Gh) (w : World) (cargs : Array Value), Inv G w M → BaseOK G w → SRepL G cargs.toList xs → Calls P f cargs w fun e w' => ∃ cells t, e = .returned (.slice (some ⟨w.heap.size, 0, none⟩) ys.length ys.length) ∧ w' = w.alloc (.cells cells t) ∧ RepL G.K cells.toList ys) :
    CallsOK P f xs M (.list 1 ys true) M := by
  refine ⟨hc, fun G w cargs hI hB hl hr => (h G w cargs hI hB hr).mono ?_⟩
  rintro e w' ⟨cells, t, rfl, rfl, hrep⟩
  have hsz : cells.size = ys.length := by have := hrep.length; simpa using this
  have c := fresh_chg (k := ys.length) (cells := cells) (o := .ret 0) (e := t) (fz := (0, 0)) hI rfl
  refine ⟨_, G.fresh w.heap.size ys.length cells (.ret 0), rfl, .data ?_, ⟨hI.lv, hI.two, fresh_kh hI rfl, fun l t cs hm => c.box hI.lamL (hI.mem l t cs hm) (fun _ _ _ hf => hf), hI.lamBox, fun l t b hl => ?_, fresh_phiL hI rfl⟩,
    c.ext (Ext.refl _ _ _) (fun _ _ _ hf => hf) (fun b l t _ h0 h1 => ?_), fun b o hb => ?_, rfl, fun i sz xs hcl => ?_⟩
  · refine .list _ _ _ _ _ _ (cells.toList.take ys.length) (Nat.le_refl _) (fun x hx => by rw [okc_cells (hone x hx)]; rfl) (by rw [flat_ones hone]; exact hone) (fun i v hv => ?_) ?_
    · show (if w.heap.size = w.heap.size then _ else _) = _
      rw [if_pos rfl]
      rw [List.getElem?_take] at hv
      split at hv
      · rename_i hi
        rw [if_pos (by omega), Nat.zero_add]
        simpa using hv
      · cases hv
    · rw [flat_ones hone, List.take_of_length_le (by simp; omega)]
      exact hrep.mono c.K
  · have := hI.lamL l t b hl
    simp; omega
  · have := hI.phiL b (by rw [h1]; simp)
    show (if b = w.heap.size then _ else _) = _
    rw [if_neg (by omega)]; exact h1
  · replace hb : (if b = w.heap.size then some (.ret 0) else G.phi b) = some o := hb
    split at hb
    · cases hb; exact .inr ⟨0, rfl⟩
    · exact .inl (hl b o hb)
  · cases i with
    | succ i => cases hcl
    | zero =>
      cases hcl
      refine .inr ⟨w.heap.size, ys.length, cells, t, (0, 0), .inl rfl, ?_, heap_alloc_new w _, .inl rfl, by rw [hsz, Nat.mul_one], Nat.le_refl _, hlen, fun o ho => ?_⟩
      · show (if w.heap.size = w.heap.size then _ else _) = _
        rw [if_pos rfl]
      · show (if w.heap.size = w.heap.size then _ else _) = _
        rw [if_pos rfl, if_neg (by omega)]
end

/-- The variables that the contracts read are as they were laid. -/
def Good [Base] : Prop := ∀ w : World, (∀ b o, Base.blk b = some o → w.heap[b]? = some o) →
  Lib.TabIs Tryz.prog w "internal/strconv.uint64pow10" .u64 Lib.pow10Tab ∧ (∃ t p, w.cell? ⟨1, 0, none⟩ = some (.iface t p)) ∧ (∃ t p, w.cell? ⟨2, 0, none⟩ = some (.iface t p)) ∧ ∃ m, w.cell? ⟨0, 0, none⟩ = some (.int .i64 m)

theorem grow_below (w : World) (k : Nat) (os : Array Obj) : Below w.heap.size w (grow (w.drewN k) os) :=
  ⟨rfl, rfl, rfl, by simp [grow, World.drewN], fun b hb => by simp [grow, World.drewN, Array.getElem?_append, hb]⟩

theorem args_one {G : Gh} {cargs : Array Value} {x : V} (h : SRepL G cargs.toList [x]) : ∃ a, cargs = #[a] ∧ SRep G a x := by
  match hc : cargs.toList, h with
  | [a], .cons ha .nil => exact ⟨a, by cases cargs; simp_all, ha⟩
theorem args_two {G : Gh} {cargs : Array Value} {x y : V} (h : SRepL G cargs.toList [x, y]) : ∃ a b, cargs = #[a, b] ∧ SRep G a x ∧ SRep G b y := by
  match hc : cargs.toList, h with
  | [a, b], .cons ha (.cons hb .nil) => exact ⟨a, b, by cases cargs; simp_all, ha, hb⟩

theorem texts_inv : ∀ {xs : List V} {l : List (List UInt8)}, texts xs = some l → xs = l.map V.str
  | [], l, h => by cases h; rfl
  | x :: r, l, h => by
    cases x <;> simp only [texts] at h <;> try (cases h; done)
    obtain ⟨q, h1, h2⟩ := Option.map_eq_some_iff.1 h
    subst h2
    rw [texts_inv h1]
    rfl

theorem strs_rep {K : Know} : ∀ (l : List (List UInt8)) (vs : List Value), RepL K vs (l.map V.str) → vs = l.map fun s => Value.string ⟨s.toArray⟩
  | [], _, .nil => rfl
  | s :: r, _, .cons h hs => by
    rw [strs_rep r _ hs]
    cases h
    rfl
theorem strs_rep' {K : Know} : ∀ (l : List (List UInt8)), RepL K (l.map fun s => Value.string ⟨s.toArray⟩) (l.map V.str)
  | [] => .nil
  | s :: r => .cons (.str s) (strs_rep' r)
theorem flat_strs : ∀ l : List (List UInt8), flat (l.map V.str) = l.map V.str
  | [] => rfl
  | s :: r => by simp [flat, flat_strs r, V.cells]

theorem bytes_data (s : List UInt8) : (⟨s.toArray⟩ : ByteArray).data.toList = s := by simp
theorem bytes_size (s : List UInt8) : (⟨s.toArray⟩ : ByteArray).size = s.length := by simp [ByteArray.size]
theorem split_eq (s sep : List UInt8) : Lib.split s sep = (Lib.splitB ⟨sep.toArray⟩ 0 (Lib.countB ⟨s.toArray⟩ ⟨sep.toArray⟩) ⟨s.toArray⟩).map (·.data.toList) := by
  rw [Lib.splitB_data, bytes_data, bytes_data]
  unfold Lib.split Lib.countB
  rw [bytes_data, bytes_data]

theorem prim_sound [Base] (hG : Good) : Sound Tryz.prog prim := by
  intro f xs M r M' h
  unfold prim at h
  split at h
  · rename_i s c
    cases h
    refine prim_plain (by kernel_rfl) (fun G w cargs hI hB hs => ?_) (noc_sound rfl)
    obtain ⟨a, b, rfl, ha, hb⟩ := args_two hs
    have ea := ha.str_inv
    have eb := hb.int_inv
    subst ea eb
    refine (Tryz.strings_IndexByte _ _ w).mono ?_
    rintro e w' ⟨rfl, rfl⟩
    exact ⟨_, rfl, .data (.int _ _), Below.refl _ _⟩
  · rename_i n
    split at h
    · rename_i hn
      cases h
      refine prim_plain (by kernel_rfl) (fun G w cargs hI hB hs => ?_) (noc_sound rfl)
      obtain ⟨a, rfl, ha⟩ := args_one hs
      have ea := ha.int_inv
      subst ea
      refine (Tryz.strconv_Itoa n hn.1 hn.2 w (hG w fun b o hb => (hB b o hb).1).1).mono ?_
      rintro e w' ⟨rfl, k, os, rfl⟩
      exact ⟨_, rfl, .data (.str _), grow_below _ _ _⟩
    · cases h
  · rename_i s
    split at h
    · rename_i hl
      cases h
      refine prim_plain (by kernel_rfl) (fun G w cargs hI hB hs => ?_) (noClaim_strip (.tup [.int .i64 (atoiV s).1, .ifc (!(atoiV s).2)]))
      obtain ⟨a, rfl, ha⟩ := args_one hs
      have ea := ha.str_inv
      subst ea
      obtain ⟨_, ⟨t1, p1, g1⟩, ⟨t2, p2, g2⟩, _⟩ := hG w fun b o hb => (hB b o hb).1
      unfold atoiV
      cases hr : Lib.atoiAll s
      case ok v =>
        refine (Tryz.strconv_Atoi_ok ⟨s.toArray⟩ (by rw [bytes_size]; omega) v (by rw [bytes_data]; exact hr) w).mono ?_
        rintro e w' ⟨rfl, hw⟩
        refine ⟨_, rfl, .tup [.int .i64 v, .nilIface] _ (.cons (.data (.int _ _)) (.cons (.data .ifnil) .nil)), ?_⟩
        rcases hw with rfl | ⟨t, rfl⟩
        · exact Below.refl _ _
        · exact Go.Joins.below_bytesWorld _ _ _ _ (Nat.le_refl _)
      case range =>
        refine (Tryz.strconv_Atoi_range ⟨s.toArray⟩ (by rw [bytes_size]; exact hl) (by rw [bytes_data]; exact hr) _ w g2 (.inr ⟨_, _, rfl⟩)).mono ?_
        rintro e w' ⟨N, rfl, _, _, hb⟩
        exact ⟨_, rfl, .tup [.int .i64 _, .iface _ _] _ (.cons (.data (by rw [bytes_data]; exact .int _ _)) (.cons (.data (.iface _ _)) .nil)), hb⟩
      have hA : Calls Tryz.prog 31 #[.string ⟨s.toArray⟩] w fun e w' => ∃ N, e = .returned (.tuple #[.int .i64 (0), .iface 82 (.pointer (some ⟨N, 0, none⟩))]) ∧ w.heap.size ≤ N ∧ w'.heap[N]? = some (.cells #[.string ⟨#[65, 116, 111, 105]⟩, .string ⟨s.toArray⟩, .iface t1 p1] 104 (0, 0)) ∧ Below w.heap.size w w' :=
        Any.strconv_Atoi_syntax Tryz.laysC172 ⟨s.toArray⟩ (by rw [bytes_size]; exact hl) (by rw [bytes_data]; exact hr) _ w g1 (.inr ⟨_, _, rfl⟩)
      refine hA.mono ?_
      rintro e w' ⟨N, rfl, _, _, hb⟩
      exact ⟨_, rfl, .tup [.int .i64 0, .iface _ _] _ (.cons (.data (.int _ _)) (.cons (.data (.iface _ _)) .nil)), hb⟩
    · cases h
  · rename_i s sep
    split at h
    · rename_i hl
      cases h
      have hlen : (Lib.split s sep).length = Lib.countB ⟨s.toArray⟩ ⟨sep.toArray⟩ + 1 := by
        rw [split_eq, List.length_map]
        exact Lib.splitB_all _ (by rw [bytes_size]; exact hl.2) 0 _ _ rfl
      have hle := Lib.countB_le ⟨sep.toArray⟩ (by rw [bytes_size]; exact hl.2) s.length ⟨s.toArray⟩ (by rw [bytes_size]; exact Nat.le_refl _)
      rw [bytes_size] at hle
      refine prim_row (by kernel_rfl) (by rw [List.length_map, hlen]; unfold maxLen; omega) (by simp [okc, V.isOneCell, isLocal, V.isOwn]) (fun G w cargs hI hB hs => ?_)
      obtain ⟨a, b, rfl, ha, hb⟩ := args_two hs
      have ea := ha.str_inv
      have eb := hb.str_inv
      subst ea eb
      obtain ⟨_, _, _, m, gm⟩ := hG w fun b o hb => (hB b o hb).1
      refine (Tryz.strings_Split ⟨s.toArray⟩ ⟨sep.toArray⟩ m w (by rw [bytes_size]; exact hl.1) gm (by rw [bytes_size]; exact hl.2)).mono ?_
      rintro e w' ⟨rfl, rfl⟩
      refine ⟨_, _, by rw [List.length_map, hlen], rfl, ?_⟩
      rw [split_eq]
      have := strs_rep' (K := G.K) ((Lib.splitB ⟨sep.toArray⟩ 0 (Lib.countB ⟨s.toArray⟩ ⟨sep.toArray⟩) ⟨s.toArray⟩).map (·.data.toList))
      simpa [List.map_map, Function.comp_def] using this
    · cases h
  · rename_i xs o sep
    obtain ⟨l, h1, h2⟩ := bind_some_iff.1 h
    split at h2
    · rename_i hl
      cases h2
      have hx := texts_inv h1
      subst hx
      refine prim_plain (by kernel_rfl) (fun G w cargs hI hB hs => ?_) (noc_sound rfl)
      obtain ⟨a, b, rfl, ha, hb⟩ := args_two hs
      have eb := hb.str_inv
      subst eb
      have ed : ∀ l : List (List UInt8), (l.map fun s => (⟨s.toArray⟩ : ByteArray)).map (·.data.toList) = l := fun l => by
        rw [List.map_map]; exact (List.map_congr_left fun s _ => bytes_data s).trans (List.map_id l)
      rcases ha.list_inv with ⟨h0, base, cap, rfl, _⟩ | ⟨bk, off, cap, vs, rfl, q1, _, _, q4, q5⟩
      · obtain rfl : l = [] := by simpa using h0
        refine (Tryz.strings_Join_none base cap _ w).mono ?_
        rintro e w' ⟨rfl, rfl⟩
        exact ⟨_, rfl, .data (by rw [Lib.join_nil]; exact .str []), Below.refl _ _⟩
      · rw [flat_strs] at q5
        have hvs := strs_rep l vs q5
        by_cases h0 : l = []
        · subst h0
          refine (Tryz.strings_Join_none (some ⟨bk, off, none⟩) cap _ w).mono ?_
          rintro e w' ⟨rfl, rfl⟩
          exact ⟨_, rfl, .data (by rw [Lib.join_nil]; exact .str []), Below.refl _ _⟩
        · have hcells : ∀ (j : Nat) x, (l.map fun s => (⟨s.toArray⟩ : ByteArray))[j]? = some x → w.cell? ⟨bk, off + j, none⟩ = some (.string x) := by
            intro j x hx
            rw [List.getElem?_map] at hx
            obtain ⟨s, hs1, rfl⟩ := Option.map_eq_some_iff.1 hx
            exact hI.kh _ _ _ (q4 j _ (by rw [hvs, List.getElem?_map, hs1]; rfl))
          have hbk : bk < w.heap.size := by
            cases l with
            | nil => exact absurd rfl h0
            | cons s r => exact World.block_lt_of_cell? w _ (hcells 0 _ rfl)
          have := Tryz.strings_Join bk off cap (l.map fun s => (⟨s.toArray⟩ : ByteArray)) ⟨sep.toArray⟩ w hcells hbk (by rw [List.length_map]; exact hl.1) (by rw [List.length_map]; simpa using q1) (by rw [ed, bytes_data]; exact hl.2)
          rw [ed, bytes_data, List.length_map] at this
          rw [List.length_map]
          refine this.mono ?_
          rintro e w' ⟨rfl, hb⟩
          exact ⟨_, rfl, .data (.str _), hb⟩
    · cases h2
  · rename_i s cs
    split at h
    · rename_i hl
      cases h
      refine prim_plain (by kernel_rfl) (fun G w cargs hI hB hs => ?_) (noc_sound rfl)
      obtain ⟨a, b, rfl, ha, hb⟩ := args_two hs
      have ea := ha.str_inv
      have eb := hb.str_inv
      subst ea eb
      have := Any.strings_Trim_laid Tryz.lays160 (by kernel_rfl) ⟨s.toArray⟩ ⟨cs.toArray⟩ w (by rw [bytes_size]; omega) (by rw [bytes_size]; omega) (ascii_of_all (by rw [bytes_data]; exact hl.2.2))
      rw [bytes_data, bytes_data] at this
      refine (show Calls Tryz.prog 42 _ w _ from this).mono ?_
      rintro e w' ⟨rfl, hb⟩
      exact ⟨_, rfl, .data (.str _), hb⟩
    · cases h
  · cases h

end Go.Proofs.YtpmpofcokkgfdaaGreatDoor.Ev

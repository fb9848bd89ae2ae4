import Derived.Shelf.SlLaysF0
import Derived.Shelf.SlLaysZ
import Derived.Shelf.SlLaysM
import Derived.Ground.SlsfProg
import Derived.Ground.GgzProg
import Derived.Ground.SlgmProg
import Derived.Test.YtpajgenngpjbaaaGreatProg
import Derived.Shelf.SlSortCmp.NoneTotal
import Derived.Shelf.SlSortCmp.InsertionK
import Derived.Sort.Walk0
import Derived.Test.YtpajgenngpjbaaaGreatPq
/- The contracts of slices.SortFunc, slices.Sorted, maps.Keys, slices.Sort laid at this program (printed by the kit's lay-plain.mjs). -/
namespace Go.Proofs
open Go.Shelf
def Tryz.sortCls_ren : Go.Shelf.Ren := ⟨fun | 6 => 42 | 15 => 87 | 14 => 86 | 28 => 132 | 29 => 133 | 20 => 124 | 21 => 125 | 22 => 126 | 23 => 127 | 24 => 128 | 25 => 129 | 26 => 130 | 27 => 131 | 46 => 158 | 47 => 159 | 48 => 160 | 49 => 161 | 50 => 162 | 57 => 183 | n => n, fun | 22 => 22 | 24 => 35 | 25 => 89 | 3 => 3 | 39 => 126 | 0 => 0 | 53 => 164 | 55 => 103 | 4 => 4 | 46 => 158 | 45 => 157 | 50 => 131 | 5 => 5 | 9 => 9 | 66 => 185 | 70 => 189 | 76 => 206 | 77 => 207 | n => n, fun | n => n⟩
theorem Tryz.sortCls : Go.Proofs.SlLaysF0.n6 Tryz.prog Tryz.sortCls_ren := {
  mixed := by kernel_rfl
  f6 := ⟨Tryz.f42.name, by decide, Tryz.func42.trans (congrArg some (by kernel_rfl))⟩
  f14 := ⟨Tryz.f86.name, by decide, Tryz.func86.trans (congrArg some (by kernel_rfl))⟩
  f15 := Tryz.func87.trans (congrArg some (by kernel_rfl))
  f20 := ⟨Tryz.f124.name, by decide, Tryz.func124.trans (congrArg some (by kernel_rfl))⟩
  f21 := ⟨Tryz.f125.name, by decide, Tryz.func125.trans (congrArg some (by kernel_rfl))⟩
  f22 := ⟨Tryz.f126.name, by decide, Tryz.func126.trans (congrArg some (by kernel_rfl))⟩
  f23 := ⟨Tryz.f127.name, by decide, Tryz.func127.trans (congrArg some (by kernel_rfl))⟩
  f24 := ⟨Tryz.f128.name, by decide, Tryz.func128.trans (congrArg some (by kernel_rfl))⟩
  f25 := ⟨Tryz.f129.name, by decide, Tryz.func129.trans (congrArg some (by kernel_rfl))⟩
  f26 := ⟨Tryz.f130.name, by decide, Tryz.func130.trans (congrArg some (by kernel_rfl))⟩
  f27 := ⟨Tryz.f131.name, by decide, Tryz.func131.trans (congrArg some (by kernel_rfl))⟩
  f28 := Tryz.func132.trans (congrArg some (by kernel_rfl))
  f29 := Tryz.func133.trans (congrArg some (by kernel_rfl))
  f46 := ⟨Tryz.f158.name, by decide, Tryz.func158.trans (congrArg some (by kernel_rfl))⟩
  f47 := Tryz.func159.trans (congrArg some (by kernel_rfl))
  f48 := Tryz.func160.trans (congrArg some (by kernel_rfl))
  f49 := ⟨Tryz.f161.name, by decide, Tryz.func161.trans (congrArg some (by kernel_rfl))⟩
  f50 := ⟨Tryz.f162.name, by decide, Tryz.func162.trans (congrArg some (by kernel_rfl))⟩
  f57 := ⟨Tryz.f183.name, by decide, Tryz.func183.trans (congrArg some (by kernel_rfl))⟩
  t0 := Tryz.underlying0
  a0 := Tryz.isAgg0
  z0 := Tryz.sizeOf0
  v0 := Tryz.zeroValue0
  t3 := Tryz.underlying3
  a3 := Tryz.isAgg3
  z3 := Tryz.sizeOf3
  v3 := Tryz.zeroValue3
  t4 := Tryz.underlying4
  a4 := Tryz.isAgg4
  z4 := Tryz.sizeOf4
  v4 := Tryz.zeroValue4
  t5 := Tryz.underlying5
  a5 := Tryz.isAgg5
  z5 := Tryz.sizeOf5
  v5 := Tryz.zeroValue5
  t9 := Tryz.underlying9
  a9 := Tryz.isAgg9
  z9 := Tryz.sizeOf9
  v9 := Tryz.zeroValue9
  t22 := Tryz.underlying22
  a22 := Tryz.isAgg22
  z22 := Tryz.sizeOf22
  v22 := Tryz.zeroValue22
  t25 := Tryz.underlying89
  a25 := Tryz.isAgg89
  z25 := Tryz.sizeOf89
  v25 := Tryz.zeroValue89
  t39 := Tryz.underlying126
  a39 := Tryz.isAgg126
  z39 := Tryz.sizeOf126
  v39 := Tryz.zeroValue126
  t45 := Tryz.underlying157
  a45 := Tryz.isAgg157
  z45 := Tryz.sizeOf157
  v45 := Tryz.zeroValue157
  t46 := Tryz.underlying158
  a46 := Tryz.isAgg158
  z46 := Tryz.sizeOf158
  v46 := Tryz.zeroValue158
  t50 := Tryz.underlying131
  a50 := Tryz.isAgg131
  z50 := Tryz.sizeOf131
  v50 := Tryz.zeroValue131
  t53 := Tryz.underlying164
  a53 := Tryz.isAgg164
  z53 := Tryz.sizeOf164
  v53 := Tryz.zeroValue164
  t55 := Tryz.underlying103
  a55 := Tryz.isAgg103
  z55 := Tryz.sizeOf103
  v55 := Tryz.zeroValue103
  t66 := Tryz.underlying185
  a66 := Tryz.isAgg185
  z66 := Tryz.sizeOf185
  v66 := Tryz.zeroValue185
  t70 := Tryz.underlying189
  a70 := Tryz.isAgg189
  z70 := Tryz.sizeOf189
  v70 := Tryz.zeroValue189
  t76 := Tryz.underlying206
  a76 := Tryz.isAgg206
  z76 := Tryz.sizeOf206
  v76 := Tryz.zeroValue206
  t77 := Tryz.underlying207
  a77 := Tryz.isAgg207
  z77 := Tryz.sizeOf207
  v77 := Tryz.zeroValue207 }
def Tryz.keysL_ren : Go.Shelf.Ren := ⟨fun | 7 => 56 | 10 => 99 | n => n, fun | 23 => 83 | 26 => 9 | 3 => 3 | 28 => 96 | 0 => 0 | 27 => 95 | 33 => 45 | 4 => 4 | n => n, fun | n => n⟩
theorem Tryz.keysL : Go.Proofs.SlLaysZ.n7 Tryz.prog Tryz.keysL_ren := {
  mixed := by kernel_rfl
  f7 := ⟨Tryz.f56.name, by decide, Tryz.func56.trans (congrArg some (by kernel_rfl))⟩
  f10 := ⟨Tryz.f99.name, by decide, Tryz.func99.trans (congrArg some (by kernel_rfl))⟩
  t0 := Tryz.underlying0
  a0 := Tryz.isAgg0
  z0 := Tryz.sizeOf0
  v0 := Tryz.zeroValue0
  t4 := Tryz.underlying4
  a4 := Tryz.isAgg4
  z4 := Tryz.sizeOf4
  v4 := Tryz.zeroValue4
  t23 := Tryz.underlying83
  a23 := Tryz.isAgg83
  z23 := Tryz.sizeOf83
  v23 := Tryz.zeroValue83
  t26 := Tryz.underlying9
  a26 := Tryz.isAgg9
  z26 := Tryz.sizeOf9
  v26 := Tryz.zeroValue9
  t27 := Tryz.underlying95
  a27 := Tryz.isAgg95
  z27 := Tryz.sizeOf95
  v27 := Tryz.zeroValue95
  t28 := Tryz.underlying96
  a28 := Tryz.isAgg96
  z28 := Tryz.sizeOf96
  v28 := Tryz.zeroValue96
  t33 := Tryz.underlying45
  a33 := Tryz.isAgg45
  z33 := Tryz.sizeOf45
  v33 := Tryz.zeroValue45 }
def Tryz.sortedL_ren : Go.Shelf.Ren := ⟨fun | 6 => 55 | 8 => 97 | 9 => 98 | 11 => 136 | 13 => 87 | 12 => 137 | 23 => 132 | 24 => 133 | 14 => 163 | 15 => 164 | 16 => 165 | 17 => 166 | 18 => 167 | 19 => 168 | 20 => 169 | 21 => 170 | 22 => 171 | 25 => 184 | 26 => 159 | 27 => 160 | 28 => 185 | 29 => 186 | 30 => 88 | 31 => 195 | n => n, fun | 26 => 9 | 28 => 96 | 24 => 29 | 0 => 0 | 3 => 3 | 37 => 126 | 48 => 164 | 50 => 103 | 4 => 4 | 40 => 158 | 39 => 157 | 45 => 131 | 5 => 5 | 9 => 9 | 51 => 185 | 55 => 189 | 57 => 206 | 58 => 207 | 33 => 45 | n => n, fun | n => n⟩
theorem Tryz.sortedL : Go.Proofs.SlLaysZ.n6 Tryz.prog Tryz.sortedL_ren := {
  mixed := by kernel_rfl
  f6 := ⟨Tryz.f55.name, by decide, Tryz.func55.trans (congrArg some (by kernel_rfl))⟩
  f8 := ⟨Tryz.f97.name, by decide, Tryz.func97.trans (congrArg some (by kernel_rfl))⟩
  f11 := ⟨Tryz.f136.name, by decide, Tryz.func136.trans (congrArg some (by kernel_rfl))⟩
  t0 := Tryz.underlying0
  a0 := Tryz.isAgg0
  z0 := Tryz.sizeOf0
  v0 := Tryz.zeroValue0
  t24 := Tryz.underlying29
  a24 := Tryz.isAgg29
  z24 := Tryz.sizeOf29
  v24 := Tryz.zeroValue29
  t26 := Tryz.underlying9
  a26 := Tryz.isAgg9
  z26 := Tryz.sizeOf9
  v26 := Tryz.zeroValue9
  t28 := Tryz.underlying96
  a28 := Tryz.isAgg96
  z28 := Tryz.sizeOf96
  v28 := Tryz.zeroValue96
  i26 := by kernel_rfl }
def Tryz.sortL_ren : Go.Shelf.Ren := ⟨fun | 6 => 98 | 8 => 87 | 9 => 137 | 19 => 132 | 20 => 133 | 21 => 163 | 22 => 164 | 23 => 165 | 24 => 166 | 25 => 167 | 26 => 168 | 27 => 169 | 28 => 170 | 29 => 171 | 36 => 184 | 31 => 159 | 32 => 160 | 37 => 185 | 38 => 186 | 39 => 88 | 41 => 195 | n => n, fun | 27 => 29 | 29 => 9 | 3 => 3 | 32 => 126 | 26 => 29 | 0 => 0 | 44 => 164 | 46 => 103 | 4 => 4 | 36 => 158 | 35 => 157 | 41 => 131 | 5 => 5 | 9 => 9 | 53 => 185 | 57 => 189 | 63 => 206 | 64 => 207 | n => n, fun | n => n⟩
theorem Tryz.sortL : Go.Proofs.SlLaysM.n6 Tryz.prog Tryz.sortL_ren := {
  mixed := by kernel_rfl
  f6 := ⟨Tryz.f98.name, by decide, Tryz.func98.trans (congrArg some (by kernel_rfl))⟩
  f8 := Tryz.func87.trans (congrArg some (by kernel_rfl))
  f9 := ⟨Tryz.f137.name, by decide, Tryz.func137.trans (congrArg some (by kernel_rfl))⟩
  f19 := Tryz.func132.trans (congrArg some (by kernel_rfl))
  f20 := Tryz.func133.trans (congrArg some (by kernel_rfl))
  f21 := ⟨Tryz.f163.name, by decide, Tryz.func163.trans (congrArg some (by kernel_rfl))⟩
  f22 := ⟨Tryz.f164.name, by decide, Tryz.func164.trans (congrArg some (by kernel_rfl))⟩
  f23 := ⟨Tryz.f165.name, by decide, Tryz.func165.trans (congrArg some (by kernel_rfl))⟩
  f24 := ⟨Tryz.f166.name, by decide, Tryz.func166.trans (congrArg some (by kernel_rfl))⟩
  f25 := ⟨Tryz.f167.name, by decide, Tryz.func167.trans (congrArg some (by kernel_rfl))⟩
  f26 := ⟨Tryz.f168.name, by decide, Tryz.func168.trans (congrArg some (by kernel_rfl))⟩
  f27 := ⟨Tryz.f169.name, by decide, Tryz.func169.trans (congrArg some (by kernel_rfl))⟩
  f28 := ⟨Tryz.f170.name, by decide, Tryz.func170.trans (congrArg some (by kernel_rfl))⟩
  f29 := ⟨Tryz.f171.name, by decide, Tryz.func171.trans (congrArg some (by kernel_rfl))⟩
  f31 := Tryz.func159.trans (congrArg some (by kernel_rfl))
  f32 := Tryz.func160.trans (congrArg some (by kernel_rfl))
  f36 := ⟨Tryz.f184.name, by decide, Tryz.func184.trans (congrArg some (by kernel_rfl))⟩
  f37 := ⟨Tryz.f185.name, by decide, Tryz.func185.trans (congrArg some (by kernel_rfl))⟩
  f38 := ⟨Tryz.f186.name, by decide, Tryz.func186.trans (congrArg some (by kernel_rfl))⟩
  f39 := ⟨Tryz.f88.name, by decide, Tryz.func88.trans (congrArg some (by kernel_rfl))⟩
  f41 := ⟨Tryz.f195.name, by decide, Tryz.func195.trans (congrArg some (by kernel_rfl))⟩
  t0 := Tryz.underlying0
  a0 := Tryz.isAgg0
  z0 := Tryz.sizeOf0
  v0 := Tryz.zeroValue0
  t3 := Tryz.underlying3
  a3 := Tryz.isAgg3
  z3 := Tryz.sizeOf3
  v3 := Tryz.zeroValue3
  t4 := Tryz.underlying4
  a4 := Tryz.isAgg4
  z4 := Tryz.sizeOf4
  v4 := Tryz.zeroValue4
  t5 := Tryz.underlying5
  a5 := Tryz.isAgg5
  z5 := Tryz.sizeOf5
  v5 := Tryz.zeroValue5
  t9 := Tryz.underlying9
  a9 := Tryz.isAgg9
  z9 := Tryz.sizeOf9
  v9 := Tryz.zeroValue9
  t26 := Tryz.underlying29
  a26 := Tryz.isAgg29
  z26 := Tryz.sizeOf29
  v26 := Tryz.zeroValue29
  t27 := Tryz.underlying29
  a27 := Tryz.isAgg29
  z27 := Tryz.sizeOf29
  v27 := Tryz.zeroValue29
  t29 := Tryz.underlying9
  a29 := Tryz.isAgg9
  z29 := Tryz.sizeOf9
  v29 := Tryz.zeroValue9
  t32 := Tryz.underlying126
  a32 := Tryz.isAgg126
  z32 := Tryz.sizeOf126
  v32 := Tryz.zeroValue126
  t35 := Tryz.underlying157
  a35 := Tryz.isAgg157
  z35 := Tryz.sizeOf157
  v35 := Tryz.zeroValue157
  t36 := Tryz.underlying158
  a36 := Tryz.isAgg158
  z36 := Tryz.sizeOf158
  v36 := Tryz.zeroValue158
  t41 := Tryz.underlying131
  a41 := Tryz.isAgg131
  z41 := Tryz.sizeOf131
  v41 := Tryz.zeroValue131
  t44 := Tryz.underlying164
  a44 := Tryz.isAgg164
  z44 := Tryz.sizeOf164
  v44 := Tryz.zeroValue164
  t46 := Tryz.underlying103
  a46 := Tryz.isAgg103
  z46 := Tryz.sizeOf103
  v46 := Tryz.zeroValue103
  t53 := Tryz.underlying185
  a53 := Tryz.isAgg185
  z53 := Tryz.sizeOf185
  v53 := Tryz.zeroValue185
  t57 := Tryz.underlying189
  a57 := Tryz.isAgg189
  z57 := Tryz.sizeOf189
  v57 := Tryz.zeroValue189
  t63 := Tryz.underlying206
  a63 := Tryz.isAgg206
  z63 := Tryz.sizeOf206
  v63 := Tryz.zeroValue206
  t64 := Tryz.underlying207
  a64 := Tryz.isAgg207
  z64 := Tryz.sizeOf207
  v64 := Tryz.zeroValue207 }
end Go.Proofs

/- slices.SortFunc of classes by name: the kit's contract, laid at this program. -/
namespace Go.Proofs
open Go.Shelf Go.RowKit Go.Lib Go.Sort

/-- Texts compared. -/
def cmpStr (x y : ByteArray) : Int := if Op.bytesLess x.toList y.toList then -1 else if !(Op.bytesLess x.toList y.toList || x.toList == y.toList) then 1 else 0
theorem Tryz.isNaN_string (x : ByteArray) (w : World) : Calls Tryz.prog 88 #[.string x] w fun e w' => e = .returned (.bool false) ∧ w' = w := by
  go_enter Tryz.func88, Tryz.ntmps88
  go_wp2
  go_ret
  exact ⟨by simp, rfl⟩
theorem Tryz.run_gtr (x y : ByteArray) (w : World) : (binOp .gtr 9 (.string x) (.string y) : Sem Value).run Tryz.prog w = .ok (.bool (!(Op.bytesLess x.toList y.toList || x.toList == y.toList))) w := by
  simp only [binOp, Op.stringOp]
  rfl
set_option maxHeartbeats 1000000 in
theorem Tryz.Compare_string (x y : ByteArray) (w : World) : Calls Tryz.prog 44 #[.string x, .string y] w fun e w' => e = .returned (.int .i64 (cmpStr x y)) ∧ w' = w := by
  go_enter Tryz.func44, Tryz.ntmps44
  go_wp2_with (go_at_call 88; refine (Tryz.isNaN_string _ _).mono ?_; rintro e w' ⟨rfl, hw⟩; rw [hw])
  · rename_i h
    go_ret
    exact ⟨by unfold cmpStr; rw [h]; rfl, rfl⟩
  · simp only [Tryz.run_gtr, Result.andThen_ok]
    go_wp2
    · rename_i h2
      go_ret
      have hlt : Op.bytesLess x.toList y.toList = false := by assumption
      exact ⟨by unfold cmpStr; rw [hlt, Bool.false_or, h2]; rfl, rfl⟩
    · rename_i h2
      go_ret
      have hlt : Op.bytesLess x.toList y.toList = false := by assumption
      exact ⟨by unfold cmpStr; rw [hlt, Bool.false_or, h2]; rfl, rfl⟩

/-- A class's cells. -/
structure RawC where
  (s1 s2 : ByteArray) (b1 b2 : Bool) (p1 p2 p3 : Option Addr) (n1 c1 n2 c2 n3 c3 : Nat)
def RawC.vals (x : RawC) : List Value := [.string x.s1, .string x.s2, .bool x.b1, .bool x.b2, .slice x.p1 x.n1 x.c1, .slice x.p2 x.n2 x.c2, .slice x.p3 x.n3 x.c3]
set_option maxHeartbeats 1000000 in
/-- The closure that compares two classes. -/
theorem Tryz.closureCls (x y : RawC) (W : World) : Calls Tryz.prog 43 #[.agg x.vals.toArray, .agg y.vals.toArray] W fun e w' => e = .returned (.int .i64 (cmpStr x.s1 y.s1)) ∧ ∃ q os', w' = grow (W.drewN q) os' := by
  obtain ⟨s1, s2, b1, b2, p1, p2, p3, n1, c1, n2, c2, n3, c3⟩ := x
  obtain ⟨s1', s2', b1', b2', p1', p2', p3', n1', c1', n2', c2', n3', c3'⟩ := y
  unfold RawC.vals
  dsimp only
  have hcon := fun W' => Tryz.Compare_string s1 s1' W'
  generalize cmpStr s1 s1' = r at hcon ⊢
  go_enter Tryz.func43, Tryz.ntmps43
  go_wp2_with (go_at_call 44; refine (hcon _).mono ?_; rintro e w' ⟨rfl, rfl⟩)
  go_ret
  exact ⟨rfl, 0, _, by rw [alloc_eq_grow, alloc_eq_grow, grow_grow]; rfl⟩
end Go.Proofs

/- A row of classes sorted: plain facts of cells and worlds. -/
namespace Go.Proofs.YtpajgenngpjbaaaGreat.Ev
open Go Go.Proofs Go.Sort Go.Shelf

theorem flatMap_get {α : Type} (enc : α → List Value) (k : Nat) (h0 : 0 < k) (hk : ∀ x, (enc x).length = k) : ∀ (l : List α) (t : Nat), (l.flatMap enc)[t]? = (l[t / k]?).bind fun x => (enc x)[t % k]?
  | [], t => by simp
  | a :: r, t => by
    rw [List.flatMap_cons, List.getElem?_append, hk]
    by_cases h : t < k
    · rw [if_pos h, Nat.div_eq_of_lt h, Nat.mod_eq_of_lt h]; simp
    · rw [if_neg h, flatMap_get enc k h0 hk r (t - k)]
      have e1 : t / k = (t - k) / k + 1 := Nat.div_eq_sub_div h0 (by omega)
      have e2 : t % k = (t - k) % k := Nat.mod_eq_sub_mod (by omega)
      rw [e1, e2, List.getElem?_cons_succ]
theorem flatMap_size {α : Type} (enc : α → List Value) (k : Nat) (hk : ∀ x, (enc x).length = k) : ∀ l : List α, (l.flatMap enc).length = l.length * k
  | [] => by simp
  | a :: r => by rw [List.flatMap_cons, List.length_append, hk, flatMap_size enc k hk r, List.length_cons, Nat.add_mul]; omega
theorem flatK_list {α : Type} [Inhabited α] (enc : α → List Value) (k : Nat) (h0 : 0 < k) (hk : ∀ x, (enc x).length = k) (d : Array α) : (flatK enc k d).toList = d.toList.flatMap enc := by
  refine List.ext_getElem (by rw [Array.length_toList, size_flatK, flatMap_size enc k hk, Array.length_toList]) fun t h1 h2 => ?_
  rw [Array.length_toList, size_flatK] at h1
  have hdt : t / k < d.size := Nat.div_lt_of_lt_mul (by rw [Nat.mul_comm]; exact h1)
  have hm : t % k < k := Nat.mod_lt _ h0
  have e1 := get_flatK enc k d t h1
  rw [getElem!_pos (flatK enc k d) t (by rw [size_flatK]; exact h1)] at e1
  rw [Array.getElem_toList, e1]
  have e2 := flatMap_get enc k h0 hk d.toList t
  rw [List.getElem?_eq_getElem h2, List.getElem?_eq_getElem (by rw [Array.length_toList]; exact hdt)] at e2
  simp only [Option.bind_some, Array.getElem_toList] at e2
  rw [List.getElem?_eq_getElem (by rw [hk]; exact hm)] at e2
  rw [getElem!_pos d (t / k) hdt, getElem!_pos (enc d[t / k]) (t % k) (by rw [hk]; exact hm)]
  injection e2 with e2
  exact e2.symm
/-- What a sorted row's world is. -/
theorem sortWorld_facts {α : Type} [Inhabited α] (enc : α → List Value) (k : Nat) (h0 : 0 < k) (hk : ∀ x, (enc x).length = k) (w : World) (b m : Nat) (dk : Array α) (os : Array Obj) {cur : Array Value} {e : TypeId} {fz : Nat × Nat} (hb : w.heap[b]? = some (.cells cur e fz)) (hn : dk.size * k ≤ cur.size) :
    (∀ b', b' < w.heap.size → b' ≠ b → (sortWorldK enc k w b 0 m dk os).heap[b']? = w.heap[b']?) ∧ w.heap.size ≤ (sortWorldK enc k w b 0 m dk os).heap.size ∧ (sortWorldK enc k w b 0 m dk os).os = w.os ∧ (sortWorldK enc k w b 0 m dk os).tape = w.tape ∧ (sortWorldK enc k w b 0 m dk os).output = w.output ∧
    ∃ cur', (sortWorldK enc k w b 0 m dk os).heap[b]? = some (.cells cur' e fz) ∧ cur'.size = cur.size ∧ cur'.toList.take (dk.size * k) = dk.toList.flatMap enc := by
  have hbl := heap_lt hb
  have hah : (Go.Sort.ahead w m).heap = w.heap := rfl
  refine ⟨fun b' h1 h2 => ?_, ?_, rfl, rfl, rfl, putCells id 0 (flatK enc k dk) cur, ?_, by simp [putCells], ?_⟩
  · simp only [sortWorldK, grow, putRowK, putRow, mapBlock, hah]
    rw [Array.getElem?_append_left (by simpa using h1), Array.getElem?_modify, if_neg (Ne.symm h2)]
  · simp only [sortWorldK, grow, putRowK, putRow, mapBlock, hah, Array.size_append, Array.size_modify]; omega
  · simp only [sortWorldK, grow, putRowK, putRow, mapBlock, hah]
    rw [Array.getElem?_append_left (by simpa using hbl), Array.getElem?_modify, if_pos rfl, hb]
    rfl
  · rw [← flatK_list enc k h0 hk]
    refine List.ext_getElem (by rw [List.length_take, Array.length_toList, Array.length_toList, size_flatK]; simp [putCells]; omega) fun t h1 h2 => ?_
    rw [Array.length_toList, size_flatK] at h2
    have e2 : (flatK enc k dk)[t]! = (flatK enc k dk)[t]'(by rw [size_flatK]; exact h2) := getElem!_pos _ _ _
    simp [putCells, h2, e2]
theorem holdsK_of {α : Type} [Inhabited α] (enc : α → List Value) (k : Nat) (h0 : 0 < k) (hk : ∀ x, (enc x).length = k) (w : World) (b : Nat) (d : Array α) {cur : Array Value} {e : TypeId} {fz : Nat × Nat} (hb : w.heap[b]? = some (.cells cur e fz)) (hfz : noFz fz cur.size) (hn : d.size * k ≤ cur.size)
    (hc : cur.toList.take (d.size * k) = d.toList.flatMap enc) : HoldsK enc k w b 0 d := by
  intro j hj
  rw [size_flatK] at hj
  rw [← flatK_list enc k h0 hk] at hc
  have e2 : (flatK enc k d)[j]! = (flatK enc k d)[j]'(by rw [size_flatK]; exact hj) := getElem!_pos _ _ _
  have e3 : cur[j]? = some ((flatK enc k d)[j]'(by rw [size_flatK]; exact hj)) := by
    have := congrArg (fun l => l[j]?) hc
    simp only [List.getElem?_take, if_pos hj, Array.getElem?_toList] at this
    rw [this, Array.getElem?_eq_getElem (by rw [size_flatK]; exact hj)]
  constructor
  · unfold World.cell?
    simp only [hb, Nat.zero_add, Option.isSome_none, Bool.false_eq_true, if_false, e3, e2, id]
  · unfold World.frozen?
    obtain ⟨lo, hi⟩ := fz
    simp only [hb]
    rcases hfz with h | h
    · cases h; simp
    · simp only at h
      have : ¬ lo ≤ j := by omega
      simp [this]
end Go.Proofs.YtpajgenngpjbaaaGreat.Ev

/- slices.SortFunc of classes is sound. -/
namespace Go.Proofs.YtpajgenngpjbaaaGreat.Ev
open Go Go.Proofs Go.Sort Go.Shelf

theorem seven {cs : List V} {n : Nat} (h : cs.length = (n + 1) * 7) : ∃ a b c d e f g r, cs = a :: b :: c :: d :: e :: f :: g :: r ∧ r.length = n * 7 := by
  match cs, h with
  | a :: b :: c :: d :: e :: f :: g :: r, h => exact ⟨a, b, c, d, e, f, g, r, rfl, by simp at h; omega⟩
  | [], h => simp at h
  | [_], h => simp at h; omega
  | [_, _], h => simp at h; omega
  | [_, _, _], h => simp at h; omega
  | [_, _, _, _], h => simp at h; omega
  | [_, _, _, _, _], h => simp at h; omega
  | [_, _, _, _, _, _], h => simp at h; omega
theorem slice_of {G : Gh} {v : Value} {sz : Nat} {xs : List V} {o : Bool} (h : SRep G v (.list sz xs o)) : ∃ p n c, v = .slice p n c := by
  rcases h.list_inv with ⟨_, base, cap, hv, _⟩ | ⟨b, off, cap, vs, hv, _⟩
  · exact ⟨_, _, _, hv⟩
  · exact ⟨_, _, _, hv⟩
theorem row_shape {x : V} (h : rowStr x = true) : ∃ s1 s2 b1 b2 z1 l1 o1 z2 l2 o2 z3 l3 o3, x = .agg [.str s1, .str s2, .bool b1, .bool b2, .list z1 l1 o1, .list z2 l2 o2, .list z3 l3 o3] := by
  unfold rowStr at h
  split at h
  · exact ⟨_, _, _, _, _, _, _, _, _, _, _, _, _, rfl⟩
  · cases h
theorem raw_row {G : Gh} : ∀ (n : Nat) (cs : List V) (vals : List Value), cs.length = n * 7 → SRepL G vals cs → (chunk 7 n cs).all rowStr = true →
    ∃ rs : List RawC, rs.length = n ∧ vals = rs.flatMap RawC.vals ∧ rs.map (fun r => r.s1.toList) = (chunk 7 n cs).map rowName ∧ ∀ (i : Nat) (r : RawC) (x : V), rs[i]? = some r → (chunk 7 n cs)[i]? = some x → SRepL G r.vals x.cells := by
  intro n
  induction n with
  | zero =>
    intro cs vals h hr _
    have : cs = [] := List.eq_nil_of_length_eq_zero (by simpa using h)
    subst this
    cases hr
    exact ⟨[], rfl, rfl, rfl, by simp⟩
  | succ n ih =>
    intro cs vals h hr ha
    obtain ⟨a, b, c, d, e, f, g, r, rfl, hl⟩ := seven h
    have hch : chunk 7 (n + 1) (a :: b :: c :: d :: e :: f :: g :: r) = .agg [a, b, c, d, e, f, g] :: chunk 7 n r := rfl
    rw [hch] at ha ⊢
    rw [List.all_cons, Bool.and_eq_true] at ha
    obtain ⟨s1, s2, b1, b2, z1, l1, o1, z2, l2, o2, z3, l3, o3, he⟩ := row_shape ha.1
    injection he with he
    injection he with e1 he; injection he with e2 he; injection he with e3 he; injection he with e4 he; injection he with e5 he; injection he with e6 he; injection he with e7 he
    subst e1 e2 e3 e4 e5 e6 e7
    cases hr with | cons r1 hr => cases hr with | cons r2 hr => cases hr with | cons r3 hr => cases hr with | cons r4 hr => cases hr with | cons r5 hr => cases hr with | cons r6 hr => cases hr with | cons r7 hr =>
    rename_i v1 v2 v3 v4 v5 v6 v7 vr
    obtain ⟨rs, q1, q2, q3, q4⟩ := ih r vr hl hr ha.2
    have f1 := r1.str_inv
    have f2 := r2.str_inv
    have f3 := r3.bool_inv
    have f4 := r4.bool_inv
    obtain ⟨p1, n1, c1, f5⟩ := slice_of r5
    obtain ⟨p2, n2, c2, f6⟩ := slice_of r6
    obtain ⟨p3, n3, c3, f7⟩ := slice_of r7
    subst f1 f2 f3 f4 f5 f6 f7
    refine ⟨⟨⟨s1.toArray⟩, ⟨s2.toArray⟩, b1, b2, p1, p2, p3, n1, c1, n2, c2, n3, c3⟩ :: rs, by simp [q1], ?_, ?_, fun i x y h1 h2 => ?_⟩
    · rw [List.flatMap_cons, q2]; rfl
    · rw [List.map_cons, List.map_cons, q3]
      simp only [toL]
      rfl
    · cases i with
      | zero =>
        simp only [List.getElem?_cons_zero, Option.some.injEq] at h1 h2
        subst h1 h2
        exact .cons r1 (.cons r2 (.cons r3 (.cons r4 (.cons r5 (.cons r6 (.cons r7 .nil))))))
      | succ i => exact q4 i x y (by simpa using h1) (by simpa using h2)
theorem cmpStr_lt (x y : ByteArray) : decide (Go.Proofs.cmpStr x y < 0) = decide (x.toList < y.toList) := by
  unfold cmpStr
  rw [bytesLess_eq]
  by_cases h : x.toList < y.toList
  · simp [h]
  · simp only [decide_eq_false h, Bool.false_eq_true, if_false, Bool.false_or]
    split <;> simp
end Go.Proofs.YtpajgenngpjbaaaGreat.Ev

/- slices.SortFunc of classes is sound. -/
namespace Go.Proofs.YtpajgenngpjbaaaGreat.Ev
open Go Go.Proofs Go.Sort Go.Shelf

theorem finRange_rows {α : Type} (l : List α) : (List.finRange l.length).map (fun i => l[i.val]) = l := by
  refine List.ext_getElem (by simp) fun i h1 h2 => by simp
theorem rows_rep {G : Gh} {n : Nat} (f : Fin n → RawC) (g : Fin n → V) (h : ∀ i, SRepL G (f i).vals (g i).cells) : ∀ L : List (Fin n), SRepL G (L.flatMap fun i => (f i).vals) (flat (L.map g))
  | [] => .nil
  | i :: r => by
    rw [List.flatMap_cons, List.map_cons]
    exact (h i).append (rows_rep f g h r)
theorem mem_flat {c : V} : ∀ {l : List V}, c ∈ flat l ↔ ∃ x ∈ l, c ∈ x.cells
  | [] => by simp [flat]
  | a :: r => by rw [flat, List.mem_append, mem_flat]; simp
theorem sort_prim [Base] {t n : Nat} {M M' : Mem} {r : V} (h : sortP M t n = some (r, M')) :
    CallsOK Tryz.prog 42 [.slc 0 t 0 7 n, .func (.func 43) [] []] M r M' := by
  unfold sortP at h
  cases hm : mget M 0 t with
  | none => rw [hm] at h; cases h
  | some cs =>
  rw [hm, Option.bind_some] at h
  split at h
  case isFalse => cases h
  case isTrue hcond =>
  obtain ⟨hne, hlen, hok, hn, hrow, hnd⟩ := hcond
  injection h with h
  injection h with h1 h2
  subst h1 h2
  have hok' : ∀ c ∈ cs, okc c = true := fun c hc => List.all_eq_true.1 hok c hc
  have hn0 : 0 < n := by
    rcases Nat.eq_zero_or_pos n with h0 | h0
    · subst h0; exact absurd (List.eq_nil_of_length_eq_zero (by simpa using hlen)) hne
    · exact h0
  refine ⟨by kernel_rfl, fun G w cargs hI hB hl hr => ?_⟩
  match hc : cargs.toList, hr with
  | [a, b], .cons ha (.cons hb .nil) =>
  obtain rfl : cargs = #[a, b] := by cases cargs; simp_all
  obtain ⟨blk, nn, off, cap, ⟨_, _, hlam⟩, ⟨hle, _⟩, hcap, rfl⟩ := ha.slc_inv
  obtain ⟨f', c', rfl, hf, hcc⟩ := hb.func_inv
  cases hf
  cases hcc
  obtain ⟨⟨b', cur, e, fz, h1, h2, ⟨h3, hfz⟩, h4, h5, h6, _⟩, hdc⟩ := (hI.mem 0 t cs hm).1 (by decide) hne
  rw [hlam] at h1
  injection h1 with h1
  injection h1 with h1 h1'
  subst h1 h1'
  have hoff : off = 0 := by
    rcases hcap with h0 | h0
    · omega
    · exact h0.1
  subst hoff
  obtain ⟨rs, q1, q2, q3, q4⟩ := raw_row n cs (cur.toList.take cs.length) hlen h5 hrow
  have hcl : (chunk 7 n cs).length = n := by
    have := congrArg List.length q3
    rw [List.length_map, List.length_map, q1] at this
    exact this.symm
  subst q1
  haveI : Inhabited (Fin rs.length) := ⟨⟨0, hn0⟩⟩
  let rsF : Fin rs.length → RawC := fun i => rs[i.val]
  let xsF : Fin rs.length → V := fun i => (chunk 7 rs.length cs)[i.val]'(by rw [hcl]; exact i.2)
  let enc : Fin rs.length → List Value := fun i => (rsF i).vals
  let cf : Fin rs.length → Fin rs.length → Int := fun i j => cmpStr (rsF i).s1 (rsF j).s1
  have hpair : ∀ i, SRepL G (rsF i).vals (xsF i).cells := fun i => q4 i.val _ _ (List.getElem?_eq_getElem _) (List.getElem?_eq_getElem _)
  have hname : ∀ i, (rsF i).s1.toList = rowName (xsF i) := fun i => by
    have h7 : (rs.map (fun r => r.s1.toList))[i.val]? = ((chunk 7 rs.length cs).map rowName)[i.val]? := by rw [q3]
    rw [List.getElem?_map, List.getElem?_map, List.getElem?_eq_getElem i.2, List.getElem?_eq_getElem (by rw [hcl]; exact i.2)] at h7
    simpa using h7
  have hlt : ∀ i j, ltOf cf i j = decide (rowName (xsF i) < rowName (xsF j)) := fun i j => by
    show decide (cmpStr (rsF i).s1 (rsF j).s1 < 0) = _
    rw [cmpStr_lt, hname, hname]
  have hinj : ∀ i j, rowName (xsF i) = rowName (xsF j) → i = j := fun i j hij => by
    have hp := List.pairwise_iff_getElem.1 hnd
    have hml : ((chunk 7 rs.length cs).map rowName).length = rs.length := by rw [List.length_map, hcl]
    have hg : ∀ k : Fin rs.length, ((chunk 7 rs.length cs).map rowName)[k.val]'(by rw [hml]; exact k.2) = rowName (xsF k) := fun k => by simp [xsF]
    rcases Nat.lt_trichotomy i.val j.val with h8 | h8 | h8
    · exact absurd (by rw [hg, hg]; exact hij) (hp i.val j.val (by rw [hml]; exact i.2) (by rw [hml]; exact j.2) h8)
    · exact Fin.ext h8
    · exact absurd (by rw [hg, hg]; exact hij.symm) (hp j.val i.val (by rw [hml]; exact j.2) (by rw [hml]; exact i.2) h8)
  have hO : SWO (ltOf cf) := {
    irrefl := fun x => by rw [hlt]; simp [List.lt_irrefl]
    trans := fun x y z h1 h2 => by
      rw [hlt] at *
      exact decide_eq_true (List.lt_trans (of_decide_eq_true h1) (of_decide_eq_true h2))
    ntrans := fun x y z h1 h2 => by
      rw [hlt] at *
      have e1 := List.not_lt.1 (of_decide_eq_false h1)
      have e2 := List.not_lt.1 (of_decide_eq_false h2)
      exact decide_eq_false (List.not_lt.2 (List.le_trans e2 e1)) }
  have hT : ∀ x y, ltOf cf x y = false → ltOf cf y x = false → x = y := fun x y h1 h2 => by
    rw [hlt] at h1 h2
    exact hinj x y (List.le_antisymm (List.not_lt.1 (of_decide_eq_false h2)) (List.not_lt.1 (of_decide_eq_false h1)))
  have hk : ∀ x, (enc x).length = 7 := fun _ => rfl
  have h1c : ∀ x, ∀ v ∈ enc x, v.oneCell' = true := fun x v hv => by
    simp only [enc, RawC.vals, List.mem_cons, List.not_mem_nil, or_false] at hv
    rcases hv with rfl | rfl | rfl | rfl | rfl | rfl | rfl <;> rfl
  have hds : (List.finRange rs.length).toArray.size = rs.length := by simp
  have hfm : ∀ L : List (Fin rs.length), L.flatMap enc = (L.map rsF).flatMap RawC.vals := fun L => by rw [List.flatMap_map]
  have hdf : (List.finRange rs.length).toArray.toList.flatMap enc = rs.flatMap RawC.vals := by
    rw [List.toList_toArray, hfm]
    congr 1
    exact finRange_rows rs
  have hH : HoldsK enc 7 w blk 0 (List.finRange rs.length).toArray := by
    refine holdsK_of enc 7 (by decide) hk w blk _ h3 hfz (by rw [hds]; omega) ?_
    rw [hds, hdf, ← hlen]
    exact q2
  have hbl := heap_lt h3
  have eg : ∀ args w, (callFunc 43 args).run Tryz.prog w = .ok (.enter 43 args) w := enters_of Tryz.func43 (by kernel_rfl) rfl
  have hcmp : CmpLays Tryz.prog 43 #[] enc 7 cf blk 0 (List.finRange rs.length).toArray.size w := fun _ _ _ _ x y => Tryz.closureCls (rsF x) (rsF y) _
  have hcon := AnyQ.slices_SortFunc_total Tryz.sortCls 7 Tryz.isAgg35 Tryz.sizeOf35 enc hk h1c cf hO 43 #[] blk 0 cap (List.finRange rs.length).toArray w eg hcmp hH hbl (by rw [hds]; omega) hT
  rw [hds] at hcon
  refine Calls.mono hcon ?_
  rintro e' w' ⟨rfl, m, os, rfl⟩
  have hL : ((List.finRange rs.length).toArray.toList.mergeSort fun x y => !(ltOf cf) y x).map xsF = sortRows (chunk 7 rs.length cs) := by
    unfold sortRows
    rw [List.map_mergeSort (s := fun x y => decide (rowName x ≤ rowName y))]
    · congr 1
      rw [List.toList_toArray]
      refine List.ext_getElem (by simp [hcl]) fun i h1 h2 => by simp [xsF]
    · intro i _ j _
      rw [hlt]
      by_cases h8 : rowName (xsF j) < rowName (xsF i)
      · have h9 : ¬ rowName (xsF i) ≤ rowName (xsF j) := fun h => (List.not_lt.2 h) h8
        rw [decide_eq_true h8, decide_eq_false h9]; rfl
      · rw [decide_eq_false h8, decide_eq_true (List.not_lt.1 h8)]; rfl
  generalize hLL : (List.finRange rs.length).toArray.toList.mergeSort (fun x y => !(ltOf cf) y x) = L at *
  have hLs : L.toArray.size = rs.length := by rw [← hLL]; simp
  obtain ⟨w1, w2, w3, w4, w5, cur', w6, w7, w8⟩ := sortWorld_facts enc 7 (by decide) hk w blk m L.toArray os h3 (by rw [hLs]; omega)
  have hrr := rows_rep rsF xsF hpair L
  rw [hL] at hrr
  rw [List.toList_toArray, hLs] at w8
  have hpm : (sortRows (chunk 7 rs.length cs)).Perm (chunk 7 rs.length cs) := List.mergeSort_perm ..
  have hcf := chunk_flat (by decide : 0 < 7) rs.length cs hlen hok'
  have hfl : (flat (sortRows (chunk 7 rs.length cs))).length = rs.length * 7 := by
    have := hrr.length
    rw [← this, flatMap_size _ 7 (fun _ => rfl)]
    exact congrArg (· * 7) (by simpa using hLs)
  have hmem : ∀ c ∈ flat (sortRows (chunk 7 rs.length cs)), c ∈ cs := fun c hc => by
    obtain ⟨x, hx, hxc⟩ := mem_flat.1 hc
    rw [← hcf.1]
    exact mem_flat.2 ⟨x, hpm.mem_iff.1 hx, hxc⟩
  obtain ⟨i1, i2⟩ := inv_row (w' := sortWorldK enc 7 w blk 0 m L.toArray os) (cs' := flat (sortRows (chunk 7 rs.length cs))) hI (by decide) hm hlam h2 h3 hfz h6 w1 w2 w3 w4 w5 w6 w7 (by rw [hfl]; omega) (by rw [hfl, w8]; exact hrr) (fun c hc => hok' c (hmem c hc)) (fun c hc => hdc c (hmem c hc))
  exact ⟨_, G, rfl, .tup [] [] .nil, i1, i2, fun b o hb => .inl (hl b o hb), mput_length .., Claims.none (fun i => by cases i <;> rfl)⟩
end Go.Proofs.YtpajgenngpjbaaaGreat.Ev

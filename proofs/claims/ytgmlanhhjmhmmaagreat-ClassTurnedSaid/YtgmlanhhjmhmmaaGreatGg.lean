/- What a class that is not too big is. -/
import Derived.Test.YtgmlanhhjmhmmaaGreatGf
namespace Go.Proofs.YtgmlanhhjmhmmaaGreat.Ev
open Go

theorem sum_nonneg : ∀ {l : List Int}, (∀ x ∈ l, 0 ≤ x) → 0 ≤ l.sum
  | [], _ => by simp
  | a :: r, h => by rw [List.sum_cons]; have := sum_nonneg fun x hx => h x (List.mem_cons_of_mem a hx); have := h a (by simp); omega
theorem le_sum : ∀ {l : List Int}, (∀ x ∈ l, 0 ≤ x) → ∀ x ∈ l, x ≤ l.sum
  | a :: r, h, x, hx => by
    rw [List.sum_cons]
    have h1 := sum_nonneg fun x hx => h x (List.mem_cons_of_mem a hx)
    have h2 := h a (by simp)
    rcases List.mem_cons.1 hx with rfl | hx
    · omega
    · have := le_sum (fun x hx => h x (List.mem_cons_of_mem a hx)) x hx; omega
theorem le_sum_map {α : Type} (g : α → Int) (hg : ∀ a, 0 ≤ g a) (l : List α) (a : α) (h : a ∈ l) : g a ≤ (l.map g).sum :=
  le_sum (by intro x hx; obtain ⟨b, _, rfl⟩ := List.mem_map.1 hx; exact hg b) _ (List.mem_map_of_mem h)
theorem sum_map_nonneg {α : Type} (g : α → Int) (hg : ∀ a, 0 ≤ g a) (l : List α) : 0 ≤ (l.map g).sum :=
  sum_nonneg (by intro x hx; obtain ⟨b, _, rfl⟩ := List.mem_map.1 hx; exact hg b)
theorem len_le_sum {α : Type} (g : α → Int) (k : Int) (hk : 0 ≤ k) : ∀ (l : List α), (∀ a ∈ l, 1 ≤ k * g a) → (l.length : Int) ≤ k * (l.map g).sum
  | [], _ => by simp
  | a :: r, hg => by
    have := len_le_sum g k hk r fun b hb => hg b (by simp [hb])
    have := hg a (by simp)
    rw [List.map_cons, List.sum_cons, List.length_cons, Int.mul_add]; omega

theorem sumF_eq {n : Int} {xs : List Int} (hn : 0 ≤ n) (hx : ∀ x ∈ xs, 0 ≤ x) (h : sumF n xs ≤ 12000) : sumF n xs = n + xs.sum := (sumF_held xs n hn hx).2 (by omega)

theorem foldl_eq {α : Type} (f : Int → α → Int) (g : α → Int) (hg : ∀ a, 0 ≤ g a) (hp : ∀ n a, 0 ≤ n → 0 ≤ f n a) (hf : ∀ n a, 0 ≤ n → f n a ≤ 12000 → f n a = n + g a) :
    ∀ (l : List α) (n : Int), 0 ≤ n → l.foldl f n ≤ 12000 → l.foldl f n = n + (l.map g).sum
  | [], n, _, _ => by simp
  | a :: l, n, hn, h => by
    have ih := foldl_eq f g hg hp hf l (f n a) (hp n a hn) h
    rw [List.foldl_cons] at h ⊢
    have hs := sum_map_nonneg g hg l
    have := hf n a hn (by omega)
    rw [List.map_cons, List.sum_cons]; omega

theorem Ins.size_eq (x : Ins) (h : x.size ≤ 12000) : x.size = 1 + (x.c.length + (x.n.length + x.d.length)) := by
  have := sumF_eq (n := 1) (xs := [(x.c.length : Int), (x.n.length : Int), (x.d.length : Int)]) (by omega) (by simp) h
  simpa [Ins.size] using this
theorem Mth.size_eq (m : Mth) (h : m.size ≤ 12000) : m.size = 1 + (m.n.length + (m.d.length + (m.code.length + m.hs.length))) + (m.code.map Ins.size).sum + (m.hs.map fun x => (x.c.length : Int)).sum := by
  have e2 : m.size = m.size1 m.code.length + (m.hs.map fun x => (x.c.length : Int)).sum := by
    have := foldl_eq (fun n (x : Hnd) => sumF n [(x.c.length : Int)]) (fun x => (x.c.length : Int)) (by simp) (fun n a hn => sumF_pos hn (by simp)) (fun n a hn hh => by rw [sumF_eq hn (by simp) hh]; simp) (m.hs.take m.hs.length) (m.size1 m.code.length) (m.size1_pos _) h
    rw [List.take_length] at this
    rw [← this, Mth.size, Mth.size2, List.take_length]
  have p2 := sum_map_nonneg (fun x : Hnd => (x.c.length : Int)) (by simp) m.hs
  have h1 : m.size1 m.code.length ≤ 12000 := by omega
  have e1 : m.size1 m.code.length = m.size0 + (m.code.map Ins.size).sum := by
    have := foldl_eq (fun n (x : Ins) => sumF n [x.size]) Ins.size Ins.size_pos (fun n a hn => sumF_pos hn (by simp [Ins.size_pos])) (fun n a hn hh => by rw [sumF_eq hn (by simp [Ins.size_pos]) hh]; simp) (m.code.take m.code.length) m.size0 (sumF_pos (by omega) (by simp)) h1
    rw [List.take_length] at this
    rw [← this, Mth.size1, List.take_length]
  have p1 := sum_map_nonneg Ins.size Ins.size_pos m.code
  have e0 := sumF_eq (n := 1) (xs := [(m.n.length : Int), (m.d.length : Int), (m.code.length : Int), (m.hs.length : Int)]) (by omega) (by simp) (show m.size0 ≤ 12000 by omega)
  have e0' : m.size0 = 1 + (m.n.length + (m.d.length + (m.code.length + m.hs.length))) := by simpa [Mth.size0] using e0
  omega
theorem Cls.size_eq (c : Cls) (h : c.size ≤ 12000) : c.size = 1 + (c.n.length + c.s.length) + (c.im.map fun s => 1 + (s.length : Int)).sum + (c.fs.map fun f => 1 + ((f.n.length : Int) + f.d.length)).sum + (c.ms.map Mth.size).sum := by
  have e3 : c.size = c.size2 c.fs.length + (c.ms.map Mth.size).sum := by
    have := foldl_eq (fun n (x : Mth) => sumF n [x.size]) Mth.size Mth.size_pos (fun n a hn => sumF_pos hn (by simp [Mth.size_pos])) (fun n a hn hh => by rw [sumF_eq hn (by simp [Mth.size_pos]) hh]; simp) (c.ms.take c.ms.length) (c.size2 c.fs.length) (c.size2_pos _) h
    rw [List.take_length] at this
    rw [← this, Cls.size, Cls.size3, List.take_length]
  have p3 := sum_map_nonneg Mth.size Mth.size_pos c.ms
  have e2 : c.size2 c.fs.length = c.size1 c.im.length + (c.fs.map fun f => 1 + ((f.n.length : Int) + f.d.length)).sum := by
    have := foldl_eq (fun n (x : Fld) => sumF n [1, (x.n.length : Int), (x.d.length : Int)]) (fun f => 1 + ((f.n.length : Int) + f.d.length)) (fun a => by omega) (fun n a hn => sumF_pos hn (by simp)) (fun n a hn hh => by rw [sumF_eq hn (by simp) hh]; simp) (c.fs.take c.fs.length) (c.size1 c.im.length) (c.size1_pos _) (show c.size2 c.fs.length ≤ 12000 by omega)
    rw [List.take_length] at this
    rw [← this, Cls.size2, List.take_length]
  have p2 := sum_map_nonneg (fun f : Fld => 1 + ((f.n.length : Int) + f.d.length)) (fun a => by omega) c.fs
  have e1 : c.size1 c.im.length = c.size0 + (c.im.map fun s => 1 + (s.length : Int)).sum := by
    have := foldl_eq (fun n (x : List UInt8) => sumF n [1, (x.length : Int)]) (fun s => 1 + (s.length : Int)) (fun a => by omega) (fun n a hn => sumF_pos hn (by simp)) (fun n a hn hh => by rw [sumF_eq hn (by simp) hh]; simp) (c.im.take c.im.length) c.size0 (sumF_pos (by omega) (by simp)) (show c.size1 c.im.length ≤ 12000 by omega)
    rw [List.take_length] at this
    rw [← this, Cls.size1, List.take_length]
  have p1 := sum_map_nonneg (fun s : List UInt8 => 1 + (s.length : Int)) (fun a => by omega) c.im
  have e0 := sumF_eq (n := 1) (xs := [(c.n.length : Int), (c.s.length : Int)]) (by omega) (by simp) (show c.size0 ≤ 12000 by omega)
  have e0' : c.size0 = 1 + (c.n.length + c.s.length) := by simpa [Cls.size0] using e0
  omega

structure Mth.Small (m : Mth) : Prop where
  (n : m.n.length ≤ 65535) (d : m.d.length ≤ 65535) (code : m.code.length ≤ 65535) (hs : m.hs.length ≤ 65535)
  (ins : ∀ x ∈ m.code, x.c.length ≤ 65535 ∧ x.n.length ≤ 65535 ∧ x.d.length ≤ 65535) (hnd : ∀ x ∈ m.hs, x.c.length ≤ 65535)
structure Cls.Small (c : Cls) : Prop where
  (n : c.n.length ≤ 65535) (s : c.s.length ≤ 65535) (im : c.im.length ≤ 65535) (fs : c.fs.length ≤ 65535) (ms : c.ms.length ≤ 65535)
  (ims : ∀ x ∈ c.im, x.length ≤ 65535) (fss : ∀ x ∈ c.fs, x.n.length ≤ 65535 ∧ x.d.length ≤ 65535) (mss : ∀ m ∈ c.ms, m.Small)
  (tx : c.texts.length ≤ 1000000)

theorem Ins.texts_len (x : Ins) : x.texts.length ≤ 3 := by
  unfold Ins.texts; cases rowB x.o 3 <;> cases rowB x.o 4 <;> cases rowB x.o 5 <;> simp
theorem flatMap_len {α β : Type} (f : α → List β) (k : Nat) : ∀ (l : List α), (∀ a ∈ l, (f a).length ≤ k) → (l.flatMap f).length ≤ k * l.length
  | [], _ => by simp
  | a :: r, h => by
    have := flatMap_len f k r fun b hb => h b (by simp [hb])
    have := h a (by simp)
    rw [List.flatMap_cons, List.length_append, List.length_cons, Nat.mul_add]; omega
theorem flatMap_len' {α β : Type} (f : α → List β) (g : α → Int) : ∀ (l : List α), (∀ a ∈ l, ((f a).length : Int) ≤ g a) → ((l.flatMap f).length : Int) ≤ (l.map g).sum
  | [], _ => by simp
  | a :: r, h => by
    have := flatMap_len' f g r fun b hb => h b (by simp [hb])
    have := h a (by simp)
    rw [List.flatMap_cons, List.length_append, List.map_cons, List.sum_cons]; omega
theorem sum_mul {α : Type} (g : α → Int) (k : Int) : ∀ (l : List α), (l.map fun a => k * g a).sum = k * (l.map g).sum
  | [] => by simp
  | a :: r => by rw [List.map_cons, List.sum_cons, List.map_cons, List.sum_cons, sum_mul g k r, Int.mul_add]

theorem Mth.texts_le (m : Mth) (h : m.size ≤ 12000) : ((mT m).length : Int) ≤ 3 * m.size := by
  have e := m.size_eq h
  have p1 := sum_map_nonneg Ins.size Ins.size_pos m.code
  have p2 := sum_map_nonneg (fun x : Hnd => (x.c.length : Int)) (by simp) m.hs
  have := flatMap_len Ins.texts 3 m.code fun a _ => a.texts_len
  simp only [mT, List.length_append, List.length_cons, List.length_nil, List.length_map]
  omega

theorem Mth.small (m : Mth) (h : m.size ≤ 12000) : m.Small := by
  have e := m.size_eq h
  have p1 := sum_map_nonneg Ins.size Ins.size_pos m.code
  have p2 := sum_map_nonneg (fun x : Hnd => (x.c.length : Int)) (by simp) m.hs
  refine ⟨by omega, by omega, by omega, by omega, fun x hx => ?_, fun x hx => ?_⟩
  · have h1 := le_sum_map Ins.size Ins.size_pos m.code x hx
    have := x.size_eq (by omega)
    omega
  · have h1 := le_sum_map (fun x : Hnd => (x.c.length : Int)) (by simp) m.hs x hx
    omega

theorem Cls.small (c : Cls) (h : c.size ≤ 12000) : c.Small := by
  have e := c.size_eq h
  have p1 := sum_map_nonneg (fun s : List UInt8 => 1 + (s.length : Int)) (fun a => by omega) c.im
  have p2 := sum_map_nonneg (fun f : Fld => 1 + ((f.n.length : Int) + f.d.length)) (fun a => by omega) c.fs
  have p3 := sum_map_nonneg Mth.size Mth.size_pos c.ms
  have l1 := len_le_sum (fun s : List UInt8 => 1 + (s.length : Int)) 1 (by omega) c.im (fun a _ => by omega)
  have l2 := len_le_sum (fun f : Fld => 1 + ((f.n.length : Int) + f.d.length)) 1 (by omega) c.fs (fun a _ => by omega)
  have hm : ∀ m ∈ c.ms, m.size ≤ 12000 := fun m hm => by
    have := le_sum_map Mth.size Mth.size_pos c.ms m hm; omega
  have l3 := len_le_sum Mth.size 1 (by omega) c.ms (fun m h' => by
    have e := m.size_eq (hm m h')
    have p1 := sum_map_nonneg Ins.size Ins.size_pos m.code
    have p2 := sum_map_nonneg (fun x : Hnd => (x.c.length : Int)) (by simp) m.hs
    omega)
  refine ⟨by omega, by omega, by omega, by omega, by omega, fun x hx => ?_, fun x hx => ?_, fun m h' => m.small (hm m h'), ?_⟩
  · have h1 := le_sum_map (fun s : List UInt8 => 1 + (s.length : Int)) (fun a => by omega) c.im x hx
    omega
  · have h1 := le_sum_map (fun f : Fld => 1 + ((f.n.length : Int) + f.d.length)) (fun a => by omega) c.fs x hx
    omega
  · have t1 := flatMap_len fT 2 c.fs fun a _ => by simp [fT]
    have t2 := flatMap_len' mT (fun m => 3 * m.size) c.ms fun m h' => m.texts_le (hm m h')
    rw [sum_mul Mth.size 3 c.ms] at t2
    simp only [Cls.texts, List.length_append, List.length_cons, List.length_nil]
    omega

end Go.Proofs.YtgmlanhhjmhmmaaGreat.Ev

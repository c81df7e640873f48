/- Words on memory for the engine: readable rows, what a call leaves alone. -/
import Derived.Test.YteanhakkceancaaEng
namespace Go.Proofs.Yteanhakkceancaa.Eng
open Go

/-- Below the old end, and outside of S, the world is as it was. -/
structure Mod (S : Nat → Prop) (w w' : World) : Prop where
  os : w'.os = w.os
  tape : w'.tape = w.tape
  output : w'.output = w.output
  size : w.heap.size ≤ w'.heap.size
  block : ∀ k, k < w.heap.size → ¬ S k → w'.heap[k]? = w.heap[k]?
abbrev New (w w' : World) : Prop := Mod (fun _ => False) w w'

theorem Mod.refl (S : Nat → Prop) (w : World) : Mod S w w := ⟨rfl, rfl, rfl, Nat.le_refl _, fun _ _ _ => rfl⟩
theorem New.refl (w : World) : New w w := Mod.refl _ w
theorem Mod.trans {S S' : Nat → Prop} {a b c : World} (h : Mod S a b) (k : Mod S' b c) (hs : ∀ i, i < a.heap.size → S' i → S i) : Mod S a c :=
  ⟨k.os.trans h.os, k.tape.trans h.tape, k.output.trans h.output, Nat.le_trans h.size k.size, fun i hi hn =>
    (k.block i (Nat.lt_of_lt_of_le hi h.size) (fun h' => hn (hs i hi h'))).trans (h.block i hi hn)⟩
theorem New.trans {a b c : World} (h : New a b) (k : New b c) : New a c := Mod.trans h k fun _ _ h => h
theorem Mod.new {S : Nat → Prop} {a b c : World} (h : Mod S a b) (k : New b c) : Mod S a c := Mod.trans h k fun _ _ h => h.elim
theorem Mod.mono {S S' : Nat → Prop} {a b : World} (h : Mod S a b) (hs : ∀ i, i < a.heap.size → S i → S' i) : Mod S' a b :=
  ⟨h.os, h.tape, h.output, h.size, fun i hi hn => h.block i hi fun h' => hn (hs i hi h')⟩
theorem New.mod {S : Nat → Prop} {a b : World} (h : New a b) : Mod S a b := h.mono fun _ _ h => h.elim
theorem New.alloc (w : World) (o : Obj) : New w (w.alloc o) := ⟨rfl, rfl, rfl, by simp, fun k hk _ => Go.RowKit.Below.heap_alloc w o k hk⟩
theorem New.drew (w : World) : New w w.drew := ⟨rfl, rfl, rfl, Nat.le_refl _, fun _ _ _ => rfl⟩
theorem Mod.set (w : World) (a : Addr) (v : Value) : Mod (fun k => k = a.block) w (w.setCell a v) :=
  ⟨rfl, rfl, rfl, by simp, fun k _ hn => Go.RowKit.Below.heap_setCell w a v k hn⟩
theorem Mod.grown {w w' : World} {row : Option Nat} (h : w.grownBy w' row) : Mod (fun k => some k = row) w w' :=
  ⟨h.os, h.tape, h.output, h.size, fun k hk hn => h.block k hk hn⟩
theorem Mod.alloc {S : Nat → Prop} {a b : World} (h : Mod S a b) (o : Obj) : Mod S a (b.alloc o) := h.new (New.alloc b o)
theorem Mod.drew {S : Nat → Prop} {a b : World} (h : Mod S a b) : Mod S a b.drew := h.new (New.drew b)
theorem Mod.below {w w' : World} (h : New w w') : Go.RowKit.Below w.heap.size w w' := ⟨h.os, h.tape, h.output, h.size, fun k hk => h.block k hk (fun h => h)⟩
theorem Mod.cell {S : Nat → Prop} {w w' : World} (h : Mod S w w') {a : Addr} {v : Value} (hc : w.cell? a = some v) (hn : ¬ S a.block) : w'.cell? a = some v :=
  (World.cell?_of_block (h.block a.block (World.block_lt_of_cell? w a hc) hn)).trans hc
theorem Mod.blk {S : Nat → Prop} {w w' : World} (h : Mod S w w') {b : Nat} {o : Obj} (hb : w.heap[b]? = some o) (hn : ¬ S b) : w'.heap[b]? = some o :=
  (h.block b (Array.getElem?_eq_some_iff.1 hb).1 hn).trans hb
theorem New.cell {w w' : World} (h : New w w') {a : Addr} {v : Value} (hc : w.cell? a = some v) : w'.cell? a = some v := Mod.cell h hc fun h => h
theorem New.blk {w w' : World} (h : New w w') {b : Nat} {o : Obj} (hb : w.heap[b]? = some o) : w'.heap[b]? = some o := Mod.blk h hb fun h => h

theorem Row.nil (w : World) (A : Option Addr) : Row w A [] := fun j u h => by simp at h
theorem Row.at_ {w : World} {A : Option Addr} {vs : List Value} (h : Row w A vs) (j : Nat) (hj : j < vs.length) : ∃ a, A = some a ∧ w.cell? (a.add j) = some vs[j] :=
  h j _ (List.getElem?_eq_getElem hj)
theorem add_block (a : Addr) (j : Nat) : (a.add j).block = a.block := by unfold Addr.add; split <;> rfl
theorem add_zero_ (a : Addr) : a.add 0 = a := by simp [Addr.add]
theorem Row.mod {S : Nat → Prop} {w w' : World} (h : Mod S w w') {A : Option Addr} {vs : List Value} (hr : Row w A vs) (hn : ∀ a, A = some a → ¬ S a.block) : Row w' A vs := by
  intro j u hu
  obtain ⟨a, rfl, hc⟩ := hr j u hu
  exact ⟨a, rfl, h.cell hc (by rw [add_block]; exact hn a rfl)⟩
theorem Row.new {w w' : World} (h : New w w') {A : Option Addr} {vs : List Value} (hr : Row w A vs) : Row w' A vs := hr.mod h fun _ _ h => h
theorem Row.lt {w : World} {A : Option Addr} {vs : List Value} (h : Row w A vs) (hv : vs ≠ []) {a : Addr} (ha : A = some a) : a.block < w.heap.size := by
  cases vs with
  | nil => exact absurd rfl hv
  | cons v r =>
    obtain ⟨b, hb, hc⟩ := h 0 v rfl
    have : a = b := by rw [ha] at hb; exact Option.some.inj hb
    subst this
    have := World.block_lt_of_cell? w _ hc
    rwa [add_block] at this
theorem add_add_ (a : Addr) (i j : Nat) : (a.add i).add j = a.add (i + j) := by
  unfold Addr.add
  by_cases hi : i = 0
  · simp [hi]
  · by_cases hj : j = 0
    · simp [hj]
    · simp [hi, hj, Nat.add_assoc]
theorem Row.take {w : World} {A : Option Addr} {vs : List Value} (h : Row w A vs) (k : Nat) : Row w A (vs.take k) := by
  intro j u hu
  rw [List.getElem?_take] at hu
  split at hu
  · exact h j u hu
  · cases hu
theorem Row.drop {w : World} {A : Option Addr} {vs : List Value} (h : Row w A vs) (k : Nat) : Row w (A.map (·.add k)) (vs.drop k) := by
  intro j u hu
  rw [List.getElem?_drop] at hu
  obtain ⟨a, rfl, hc⟩ := h _ u hu
  exact ⟨a.add k, rfl, by rw [add_add_]; exact hc⟩
/-- A cut's row. 'c' is the capacity. -/
theorem Row.cut {w : World} {A : Option Addr} {vs : List Value} (h : Row w A vs) (c k size : Nat) (hc : vs.length ≤ c * size) : Row w (slA A c k size) (vs.drop (k * size)) := by
  unfold slA
  split
  · rename_i e
    subst e
    rw [List.drop_eq_nil_of_le hc]
    exact Row.nil _ _
  · exact h.drop _

/-! ### Numbers -/
theorem wrap_i64 {n : Int} (h0 : -9223372036854775808 ≤ n) (h1 : n ≤ 9223372036854775807) : IntKind.i64.wrap n = n := by
  rw [IntKind.wrap_i64]; omega
theorem wrap_u8 (n : Int) : IntKind.u8.wrap n = n % 256 := IntKind.wrap_u8 n
theorem wrap_u32 (n : Int) : IntKind.u32.wrap n = n % 4294967296 := IntKind.wrap_u32 n
theorem bv_ofInt {k : Nat} (a : BitVec k) : BitVec.ofInt k (a.toNat : Int) = a := by
  apply BitVec.eq_of_toNat_eq
  rw [BitVec.ofInt_natCast, BitVec.toNat_ofNat]
  exact Nat.mod_eq_of_lt a.isLt
theorem wrap_bv32 (a : BitVec 32) : IntKind.u32.wrap (a.toNat : Int) = (a.toNat : Int) := by
  rw [IntKind.wrap_u32]
  have := a.isLt
  omega
theorem bits_and32 (a b : BitVec 32) : bits .and .u32 a.toNat b.toNat = ((a &&& b).toNat : Int) := by
  simp only [bits, IntKind.bits, bv_ofInt]; exact wrap_bv32 _
theorem bits_or32 (a b : BitVec 32) : bits .or .u32 a.toNat b.toNat = ((a ||| b).toNat : Int) := by
  simp only [bits, IntKind.bits, bv_ofInt]; exact wrap_bv32 _
theorem bits_xor32 (a b : BitVec 32) : bits .xor .u32 a.toNat b.toNat = ((a ^^^ b).toNat : Int) := by
  simp only [bits, IntKind.bits, bv_ofInt]; exact wrap_bv32 _
theorem wrap_bv8 (a : BitVec 8) : IntKind.u8.wrap (a.toNat : Int) = (a.toNat : Int) := by
  rw [IntKind.wrap_u8]
  have := a.isLt
  omega
theorem bits_xor8 (a b : BitVec 8) : bits .xor .u8 a.toNat b.toNat = ((a ^^^ b).toNat : Int) := by
  simp only [bits, IntKind.bits, bv_ofInt]; exact wrap_bv8 _
theorem bits_and8 (a b : BitVec 8) : bits .and .u8 a.toNat b.toNat = ((a &&& b).toNat : Int) := by
  simp only [bits, IntKind.bits, bv_ofInt]; exact wrap_bv8 _
theorem bits_or8 (a b : BitVec 8) : bits .or .u8 a.toNat b.toNat = ((a ||| b).toNat : Int) := by
  simp only [bits, IntKind.bits, bv_ofInt]; exact wrap_bv8 _
theorem shr32 (a : BitVec 32) (k : Nat) : (a.toNat : Int) / 2 ^ k = ((a >>> k).toNat : Int) := by
  rw [BitVec.toNat_ushiftRight, Nat.shiftRight_eq_div_pow]
  simp
theorem bvs_length (bs : List UInt8) : (bvs bs).length = bs.length := List.length_map ..
theorem bvs_get (bs : List UInt8) (i : Nat) (h : i < bs.length) : (bvs bs)[i]? = some (bv bs[i]) := by simp [bvs, h]

/-! ### Rows of one's own -/
theorem own_slice {w : World} {base : Nat} {e : TypeId} {size n : Nat} {v : Value} {xs : List Value} (h : w.ownsRow base e size v n xs) : ∃ A c, v = .slice A n c ∧ n ≤ c ∧ c ≤ 9223372036854775807 ∧ Row w A xs ∧ (∀ a, A = some a → base ≤ a.block ∧ a.block < w.heap.size ∧ v.ownBlock = some a.block) := by
  rcases h.2 with ⟨rfl, rfl⟩ | ⟨g, cap, cur, rfl, hb, hg, hn, hc, hs, ht⟩
  · have : xs = [] := List.eq_nil_of_length_eq_zero (by simpa using h.1)
    subst this
    exact ⟨none, 0, rfl, Nat.le_refl _, by omega, Row.nil _ _, fun a ha => by cases ha⟩
  · refine ⟨some ⟨g, 0, none⟩, cap, rfl, hn, by unfold maxLen at hc; omega, ?_, fun a ha => ?_⟩
    · intro j u hu
      exact ⟨_, rfl, h.cells (g := g) rfl j u hu⟩
    · cases ha
      exact ⟨hb, (Array.getElem?_eq_some_iff.1 hg).1, rfl⟩
theorem own_mod {S : Nat → Prop} {w w' : World} (hm : Mod S w w') {base : Nat} {e : TypeId} {size n : Nat} {v : Value} {xs : List Value} (h : w.ownsRow base e size v n xs) (hn : ∀ k, v.ownBlock = some k → ¬ S k) : w'.ownsRow base e size v n xs := by
  refine ⟨h.1, ?_⟩
  rcases h.2 with h' | ⟨g, cap, cur, rfl, hb, hg, rest⟩
  · exact .inl h'
  · exact .inr ⟨g, cap, cur, rfl, hb, hm.blk hg (hn g rfl), rest⟩
theorem own_new {w w' : World} (hm : New w w') {base : Nat} {e : TypeId} {size n : Nat} {v : Value} {xs : List Value} (h : w.ownsRow base e size v n xs) : w'.ownsRow base e size v n xs := own_mod hm h fun _ _ h => h
theorem own_lit (w : World) (cells : List Value) (e : TypeId) (size n base : Nat) (hb : base ≤ w.heap.size) (hs : cells.length = n * size) (hm : n ≤ 9223372036854775807) :
    (w.alloc (.cells cells.toArray e)).ownsRow base e size (.slice (some ⟨w.heap.size, 0, none⟩) n n) n cells := by
  have := World.ownsRow_lit (e := e) (size := size) w cells.toArray n hb (by unfold maxLen; omega) (by simpa using hs)
  simpa using this

theorem row_alloc (w : World) (vs : List Value) (e : TypeId) (fz : Nat × Nat) : Row (w.alloc (.cells vs.toArray e fz)) (some ⟨w.heap.size, 0, none⟩) vs := by
  intro j u hu
  refine ⟨_, rfl, ?_⟩
  rw [Addr.add_lit, Nat.zero_add, cell_of_row _ _ j _ e fz (heap_alloc_new w _)]
  simpa using hu
theorem own_pos {w : World} {base : Nat} {e : TypeId} {size n : Nat} {v : Value} {xs : List Value} (h : w.ownsRow base e size v n xs) (hn : 0 < n) : ∃ g c, v = .slice (some ⟨g, 0, none⟩) n c ∧ base ≤ g ∧ g < w.heap.size ∧ n ≤ c ∧ c ≤ 9223372036854775807 := by
  rcases h.2 with ⟨rfl, rfl⟩ | ⟨g, cap, cur, rfl, hb, hg, hnc, hc, hs, ht⟩
  · omega
  · exact ⟨g, cap, rfl, hb, (Array.getElem?_eq_some_iff.1 hg).1, hnc, by unfold maxLen at hc; omega⟩
/-- A store into a row of one's own. -/
theorem own_store {w : World} {base : Nat} {e : TypeId} {size n g c : Nat} {xs : List Value} (h : w.ownsRow base e size (.slice (some ⟨g, 0, none⟩) n c) n xs) (j : Nat) (hj : j < xs.length) :
    w.cell? ⟨g, j, none⟩ = some xs[j] ∧ w.frozen? ⟨g, j, none⟩ = false ∧ ∀ u, (w.setCell ⟨g, j, none⟩ u).ownsRow base e size (.slice (some ⟨g, 0, none⟩) n c) n (xs.set j u) ∧ Mod (fun k => k = g) w (w.setCell ⟨g, j, none⟩ u) :=
  ⟨(h.cellAt j (by rw [← h.1]; exact hj)).trans (List.getElem?_eq_getElem hj), h.frozenAt j, fun u => ⟨(h.stored j u).1, Mod.set w ⟨g, j, none⟩ u⟩⟩

theorem modify_last {α : Type} (f : α → α) (x : α) : ∀ l : List α, (l ++ [x]).modify l.length f = l ++ [f x]
  | [] => rfl
  | y :: r => by simpa using modify_last f x r
section
variable {P : Program} {T : Tab} {F : FuncId → Bool}
/-- 'append(s, x...)' onto a row of one's own. -/
theorem append_ (hT : TabOk P T F) {o : Oper} {s x : Operand} {t e : TypeId} {ti te : TI} {fr : Fr} {w : World} {K : Fr → World → Prop} (ho : o.op = .call { callee := .builtin .append, args := #[s, x], argTypes := #[t, t] })
    (ht : T t = some ti) (htd : ti.desc = .slice e) (he : T e = some te) {base n m c : Nat} {v : Value} {A : Option Addr} {xs news : List Value} (hown : w.ownsRow base e te.size v n xs) (hv : ev fr s = v) (hx : ev fr x = .slice A m c)
    (hr : Row w A news) (hl : news.length = m * te.size) (h1 : ∀ u ∈ news, u.oneCell' = true) (hs : 0 < te.size) (hz : te.zero.length = te.size) (hb : (n + m) * te.bytes ≤ 140737488355328) (h63 : n + m ≤ 9223372036854775807) (hbase : base ≤ w.heap.size)
    (k : ∀ A' c' w', w'.ownsRow base e te.size (.slice A' (n + m) c') (n + m) (xs ++ news) → Mod (fun k => some k = v.ownBlock) w w' → K (putF fr o.dst (.slice A' (n + m) c')) w') : raw P o fr w K := by
  replace k : ∀ v' w', w'.ownsRow base e te.size v' (n + m) (xs ++ news) → Mod (fun k => some k = v.ownBlock) w w' → K (putF fr o.dst v') w' := by
    intro v' w' ho hm
    obtain ⟨A', c', rfl, _⟩ := own_slice ho
    exact k A' c' w' ho hm
  obtain ⟨j, z, hj, hjs, hjb, hjz, hzc⟩ := hT.info e te he
  have hu := hT.desc t ti ht
  rw [htd] at hu
  have hzs : z.cells.size = te.size := by rw [hzc]; simpa using hz
  have fin : ∀ v' w', (Builtin.append_ #[t, t] o.type #[v, .slice A m c]).run P w = .ok v' w' → K (putF fr o.dst v') w' → raw P o fr w K := by
    intro v' w' hrun hk
    refine raw_value ?_ hk
    simp only [execOp, ho, resolve, Sem.run_bind, Sem.run_pure, Result.andThen_ok, invoke, builtin, List.map_toArray, List.map_cons, List.map_nil, hv, hx]
    rw [hrun]
    rfl
  cases A with
  | none =>
    have hn : news = [] := by
      cases news with
      | nil => rfl
      | cons u r => obtain ⟨a, ha, _⟩ := hr 0 u rfl; cases ha
    subst hn
    have hm : m = 0 := by
      have h0 : m * te.size = 0 := by simpa using hl.symm
      rcases Nat.mul_eq_zero.mp h0 with h | h <;> omega
    subst hm
    refine fin v w ?_ (k v w (by simpa using hown) (Mod.refl _ w))
    rcases hown.2 with ⟨rfl, rfl⟩ | ⟨g, cap, cur, rfl, _, _, hnc, _⟩
    · simp [Builtin.append_, run_underlying hu, sizeOf, typeInfo, hj, Builtin.lenOf, Builtin.firstCells]
    · simp [Builtin.append_, run_underlying hu, sizeOf, typeInfo, hj, Builtin.lenOf, Builtin.firstCells, hnc, storeCells]
  | some a =>
    obtain ⟨v', w', hrun, ho', hg, _⟩ := run_append_own (P := P) w base t o.type e j z te.size te.bytes hu hj hjz hjs hjb hzs hs v n xs hown a m c news hl
      (fun j u hu => by obtain ⟨a', ha, hc⟩ := hr j u hu; cases ha; exact hc) h1 (by unfold maxLen; omega) hb hbase
    exact fin v' w' hrun (k v' w' ho' (Mod.grown hg))
/-- '[]byte' of a constant: the new block is marked behind its end. -/
theorem conv_const (hT : TabOk P T F) {o : Oper} {x : Operand} {t e : TypeId} {ti te : TI} {fr : Fr} {w : World} {K : Fr → World → Prop} (ho : o.op = .convert t t x) (ht : T t = some ti) (htd : ti.desc = .slice e) (he : T e = some te) (hed : te.desc = .int .u8)
    {cells : Array Value} {n c : Nat} (hx : ev fr x = .slice (some ⟨w.heap.size, 0, none⟩) n c) (k : K (putF fr o.dst (.slice (some ⟨w.heap.size, 0, none⟩) n c)) (w.alloc (.cells cells e (cells.size, cells.size + 1)))) : raw P o fr (w.alloc (.cells cells e)) K := by
  have hu := hT.desc t ti ht
  have hue := hT.desc e te he
  rw [htd] at hu
  rw [hed] at hue
  refine raw_value (w' := w.alloc (.cells cells e (cells.size, cells.size + 1))) (v := .slice (some ⟨w.heap.size, 0, none⟩) n c) ?_ k
  have hsh : (w.alloc (.cells cells e)).shape? w.heap.size = some (e, cells.size) := by unfold World.shape?; rw [heap_alloc_new w (.cells cells e)]
  have hfz : (w.alloc (.cells cells e)).freeze ⟨w.heap.size, cells.size, none⟩ 1 = w.alloc (.cells cells e (cells.size, cells.size + 1)) := by
    unfold World.freeze World.alloc
    simp only [Nat.one_ne_zero, if_false]
    congr 1
    apply Array.ext'
    rw [Array.toList_modify, Array.toList_push, Array.toList_push]
    have := modify_last (fun o : Obj => match o with
      | .cells c elem (lo, hi) => Obj.cells c elem (if lo == hi then (cells.size, cells.size + 1) else (min lo cells.size, max hi (cells.size + 1)))
      | o => o) (.cells cells e) w.heap.toList
    rw [Array.length_toList] at this
    exact Eq.trans this (by simp)
  simp [execOp, ho, convert, hx, run_underlying hu, run_underlying hue, markStringish, hsh, hfz]
/-- 'make([]T, n)'. -/
theorem make_ (hT : TabOk P T F) {o : Oper} {l : Operand} {t e : TypeId} {ti te : TI} {fr : Fr} {w : World} {K : Fr → World → Prop} (ho : o.op = .makeSlice t l l)
    (ht : T t = some ti) (htd : ti.desc = .slice e) (he : T e = some te) {n : Nat} {kl : IntKind} {i : Int} (hl : ev fr l = .int kl i) (hi : i = (n : Int)) (hb : te.bytes * n ≤ 281474976710656) (h63 : n ≤ 9223372036854775807) (hz1 : te.zero = [te.zero.headD undef]) (hs : te.size = 1)
    (k : ∀ w', w'.ownsRow w.heap.size e 1 (.slice (some ⟨w.heap.size, 0, none⟩) n n) n (List.replicate n (te.zero.headD undef)) → New w w' → K (putF fr o.dst (.slice (some ⟨w.heap.size, 0, none⟩) n n)) w') : raw P o fr w K := by
  subst hi
  obtain ⟨j, z, hj, hjs, hjb, hjz, hzc⟩ := hT.info e te he
  have hu := hT.desc t ti ht
  rw [htd] at hu
  obtain ⟨w', hrun, hown, hg⟩ := run_make_full (P := P) w w.heap.size t e j z 1 hu hj hjz (by rw [hjs, hs]) kl kl n (by rw [hjb]; exact hb) (by unfold maxLen; omega) (Nat.le_refl _)
  have hcells : (madeCells z.cells (n * 1)).toList = List.replicate n (te.zero.headD undef) := by
    rw [hzc, hz1, Nat.mul_one]
    exact toList_madeCells_one _ n
  rw [hcells] at hown
  refine raw_value ?_ (k w' hown ((Mod.grown hg).mono fun i _ h => by cases h))
  simp [execOp, ho, hl, hrun]
end
end Go.Proofs.Yteanhakkceancaa.Eng

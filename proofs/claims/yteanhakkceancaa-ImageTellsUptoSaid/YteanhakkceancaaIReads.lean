/- Readings against formats, and lists of members in memory: no program in sight. -/
import Derived.Test.YteanhakkceancaaIMath
import Derived.Test.YteanhakkceancaaSays
import Derived.Test.YteanhakkceancaaWRef2
namespace Go.Proofs.Yteanhakkceancaa.Image
open Go Go.Proofs.Yteanhakkceancaa Go.Proofs.Yteanhakkceancaa.Eng Go.Proofs Go.Proofs.Yteanhakkceancaa.Word Go.Proofs.Yteanhakkceancaa.Fmt
set_option maxRecDepth 10000

/-! ### Readings: the place, and whether there is none -/
abbrev RSt := Nat × Bool
def Reads {α : Type} (bs : List UInt8) (F : Fmt α) (s : RSt) (x : α) (s' : RSt) : Prop :=
  s.1 ≤ s'.1 ∧ s'.1 ≤ bs.length ∧ ((s.2 = true ∧ s'.2 = true) ∨ (s.2 = false ∧ s'.2 = true ∧ F.parse (bs.drop s.1) = none) ∨ (s.2 = false ∧ s'.2 = false ∧ F.parse (bs.drop s.1) = some (x, bs.drop s'.1)))
section
variable {α β : Type} {bs : List UInt8} {F : Fmt α} {G : Fmt β} {s s1 s2 : RSt} {x : α} {y : β}
theorem Reads.bad (h : s.2 = true) (hs : s.1 ≤ bs.length) (x : α) : Reads bs F s x s := ⟨Nat.le_refl _, hs, .inl ⟨h, h⟩⟩
theorem Reads.stays (h : Reads bs F s x s1) (hb : s.2 = true) : s1.2 = true := by
  rcases h.2.2 with h | h | h
  · exact h.2
  · exact h.2.1
  · rw [h.1] at hb; cases hb
theorem Reads.seq (h : Reads bs F s x s1) (k : Reads bs G s1 y s2) : Reads bs (Fmt.seq F G) s (x, y) s2 := by
  obtain ⟨h1, h2, h3⟩ := h
  obtain ⟨k1, k2, k3⟩ := k
  refine ⟨Nat.le_trans h1 k1, k2, ?_⟩
  have hp : (Fmt.seq F G).parse (bs.drop s.1) = (F.parse (bs.drop s.1)).bind fun r => (G.parse r.2).map fun q => ((r.1, q.1), q.2) := rfl
  rw [hp]
  rcases h3 with h3 | h3 | h3
  · rcases k3 with k3 | k3 | k3
    · exact .inl ⟨h3.1, k3.2⟩
    · exact .inl ⟨h3.1, k3.2.1⟩
    · rw [h3.2] at k3; cases k3.1
  · rw [h3.2.2]
    rcases k3 with k3 | k3 | k3
    · exact .inr (.inl ⟨h3.1, k3.2, rfl⟩)
    · exact .inr (.inl ⟨h3.1, k3.2.1, rfl⟩)
    · rw [h3.2.1] at k3; cases k3.1
  · rw [h3.2.2, Option.bind_some]
    rcases k3 with k3 | k3 | k3
    · rw [h3.2.1] at k3; cases k3.1
    · refine .inr (.inl ⟨h3.1, k3.2.1, ?_⟩)
      show Option.map _ (G.parse (bs.drop s1.1)) = none
      rw [k3.2.2]
      rfl
    · refine .inr (.inr ⟨h3.1, k3.2.1, ?_⟩)
      show Option.map _ (G.parse (bs.drop s1.1)) = _
      rw [k3.2.2]
      rfl
theorem Reads.via (to : α → β) (from_ : β → α) (h1 : ∀ x, F.ok x → from_ (to x) = x) (h : Reads bs F s x s1) : Reads bs (Fmt.via F to from_ h1) s (to x) s1 := by
  obtain ⟨a, b, h⟩ := h
  refine ⟨a, b, ?_⟩
  show _ ∨ (_ ∧ _ ∧ Option.map _ (F.parse (bs.drop s.1)) = none) ∨ (_ ∧ _ ∧ Option.map _ (F.parse (bs.drop s.1)) = _)
  rcases h with h | h | h
  · exact .inl h
  · exact .inr (.inl ⟨h.1, h.2.1, by rw [h.2.2]; rfl⟩)
  · exact .inr (.inr ⟨h.1, h.2.1, by rw [h.2.2]; rfl⟩)
/-- A number read, unless there is none. -/
theorem Reads.num {k : Nat} (sign : Bool) (hk : wide (k : Int) = true) (i : Nat) (hi : i ≤ bs.length) :
    Reads bs (Fmt.num k sign hk) (i, false) (Word.get sign bs i k).1 ((Word.get sign bs i k).2.2, !decide ((Word.get sign bs i k).2.1 = 0)) := by
  rcases get_num k sign hk bs i hi with ⟨v, h1, h2, h3⟩ | ⟨h1, e, he, h2⟩
  · rw [h2]
    exact ⟨Nat.le_add_right _ _, h3, .inr (.inr ⟨rfl, rfl, h1⟩)⟩
  · rw [h2]
    exact ⟨Nat.le_refl _, hi, .inr (.inl ⟨rfl, by rw [decide_eq_false he]; rfl, h1⟩)⟩
theorem get_bound (sign : Bool) (bs : List UInt8) (i k : Nat) (hk : k = 1 ∨ k = 2 ∨ k = 4) : -2147483648 ≤ (Word.get sign bs i (k : Int)).1 ∧ (Word.get sign bs i (k : Int)).1 ≤ 4294967295 := by
  unfold Word.get
  have hl := be_lt ((bs.drop i).take k)
  have hlen : ((bs.drop i).take k).length ≤ k := by rw [List.length_take]; omega
  have hp : (256 : Nat) ^ ((bs.drop i).take k).length ≤ 256 ^ k := Nat.pow_le_pow_right (by decide) hlen
  rw [Int.toNat_natCast]
  generalize be ((bs.drop i).take k) = v at hl
  have hv : v < 256 ^ k := Nat.lt_of_lt_of_le hl hp
  clear hl hp hlen
  split
  · split
    · exact ⟨by simp, by simp⟩
    · split
      · unfold sval
        rcases hk with rfl | rfl | rfl <;> split <;> simp only <;> omega
      · split
        · rcases hk with rfl | rfl | rfl <;> simp only <;> omega
        · exact ⟨by simp, by simp⟩
  · exact ⟨by simp, by simp⟩
/-- Numbers, one behind the other. -/
def Nums (bs : List UInt8) : RSt → List Int → RSt → Prop
  | s, [], s' => s = s'
  | s, n :: r, s' => ∃ s1, Reads bs (Fmt.num 8 true w8) s n s1 ∧ Nums bs s1 r s'
theorem Nums.snoc {bs : List UInt8} {n : Int} {s2 : RSt} : ∀ {ns : List Int} {s s1 : RSt}, Nums bs s ns s1 → Reads bs (Fmt.num 8 true w8) s1 n s2 → Nums bs s (ns ++ [n]) s2
  | [], s, s1, h, k => by
    have h : s = s1 := h
    rw [h]
    exact ⟨s2, k, rfl⟩
  | x :: r, s, s1, ⟨s3, h, h'⟩, k => ⟨s3, h, h'.snoc k⟩
/-! ### Lists -/
/-- A list that is being read: what is there, and how many are to come. -/
def LInv (bs : List UInt8) (F : Fmt α) (s : RSt) (acc : List α) (m : Nat) (s' : RSt) : Prop :=
  s.1 ≤ s'.1 ∧ s'.1 ≤ bs.length ∧ ((s.2 = true ∧ s'.2 = true) ∨ (s.2 = false ∧ s'.2 = true ∧ (list 4 w4 F).parse (bs.drop s.1) = none) ∨ (s.2 = false ∧ s'.2 = false ∧ (list 4 w4 F).parse (bs.drop s.1) = (manyP F m (bs.drop s'.1)).map fun r => (acc ++ r.1, r.2)))
theorem LInv.start {n : Int} (h : Reads bs (Fmt.num 4 false w4) s n s1) : LInv bs F s [] n.toNat s1 := by
  obtain ⟨a, b, h⟩ := h
  refine ⟨a, b, ?_⟩
  have hp : (list 4 w4 F).parse (bs.drop s.1) = ((Fmt.num 4 false w4).parse (bs.drop s.1)).bind fun r => manyP F r.1.toNat r.2 := rfl
  rw [hp]
  rcases h with h | h | h
  · exact .inl h
  · exact .inr (.inl ⟨h.1, h.2.1, by rw [h.2.2]; rfl⟩)
  · refine .inr (.inr ⟨h.1, h.2.1, ?_⟩)
    rw [h.2.2, Option.bind_some]
    simp
theorem LInv.step {acc : List α} {m : Nat} (h : LInv bs F s acc (m + 1) s1) (hb : s1.2 = false) (k : Reads bs F s1 x s2) : LInv bs F s (acc ++ [x]) m s2 := by
  obtain ⟨a, b, h⟩ := h
  obtain ⟨k1, k2, k3⟩ := k
  refine ⟨Nat.le_trans a k1, k2, ?_⟩
  rcases h with h | h | h
  · rw [h.2] at hb; cases hb
  · rw [h.2.1] at hb; cases hb
  · rcases k3 with k3 | k3 | k3
    · rw [k3.1] at hb; cases hb
    · refine .inr (.inl ⟨h.1, k3.2.1, ?_⟩)
      rw [h.2.2, manyP, k3.2.2]
      rfl
    · refine .inr (.inr ⟨h.1, k3.2.1, ?_⟩)
      rw [h.2.2, manyP, k3.2.2, Option.bind_some, Option.map_map]
      congr 1
      funext r
      simp
theorem LInv.done {acc : List α} {m : Nat} (h : LInv bs F s acc m s1) (hm : s1.2 = false → m = 0) : Reads bs (list 4 w4 F) s acc s1 := by
  obtain ⟨a, b, h⟩ := h
  refine ⟨a, b, ?_⟩
  rcases h with h | h | h
  · exact .inl h
  · exact .inr (.inl h)
  · refine .inr (.inr ⟨h.1, h.2.1, ?_⟩)
    rw [h.2.2, hm h.2.1]
    simp [manyP]
end
/-! ### Members in memory -/
/-- How a value lies in memory: its cells, and rows behind them that are none of those blocks. -/
abbrev RepT (α : Type) := World → (Nat → Prop) → List Value → α → Prop
structure RepOk {α : Type} (R : RepT α) (sz : Nat) : Prop where
  mod : ∀ {w w' : World} {S : Nat → Prop} {cs : List Value} {x : α}, R w S cs x → Mod S w w' → R w' S cs x
  weak : ∀ {w : World} {S S' : Nat → Prop} {cs : List Value} {x : α}, R w S cs x → (∀ b, b < w.heap.size → S' b → S b) → R w S' cs x
  len : ∀ {w : World} {S : Nat → Prop} {cs : List Value} {x : α}, R w S cs x → cs.length = sz
  one : ∀ {w : World} {S : Nat → Prop} {cs : List Value} {x : α}, R w S cs x → ∀ u ∈ cs, u.oneCell' = true
abbrev cellsOf {α : Type} (ts : List (List Value × α)) : List Value := (ts.map (·.1)).flatten
/-- A list's row. -/
structure LRow {α : Type} (R : RepT α) (w : World) (S : Nat → Prop) (A : Option Addr) (ts : List (List Value × α)) : Prop where
  row : Row w A (cellsOf ts)
  off : ∀ a, A = some a → ts ≠ [] → a.block < w.heap.size ∧ ¬ S a.block
  mem : ∀ t ∈ ts, R w S t.1 t.2
/-- A list in memory. -/
def LRep {α : Type} (R : RepT α) (w : World) (S : Nat → Prop) (v : Value) (xs : List α) : Prop :=
  ∃ A c ts, v = .slice A xs.length c ∧ ts.map (·.2) = xs ∧ xs.length ≤ c ∧ c ≤ 9223372036854775807 ∧ xs.length ≤ 17592186044416 ∧ LRow R w S A ts
section
variable {α : Type} {R : RepT α} {sz : Nat} {w w' : World} {S S' : Nat → Prop} {v : Value} {xs : List α} {A : Option Addr} {ts : List (List Value × α)}
theorem LRow.mod (hR : RepOk R sz) (hsz : 0 < sz) (h : LRow R w S A ts) (m : Mod S w w') : LRow R w' S A ts := by
  refine ⟨?_, fun a ha hn => ⟨Nat.lt_of_lt_of_le (h.off a ha hn).1 m.size, (h.off a ha hn).2⟩, fun t ht => hR.mod (h.mem t ht) m⟩
  by_cases hn : ts = []
  · subst hn
    exact Row.nil _ _
  · exact h.row.mod m fun a ha => (h.off a ha hn).2
theorem LRow.weak (hR : RepOk R sz) (h : LRow R w S A ts) (hs : ∀ b, b < w.heap.size → S' b → S b) : LRow R w S' A ts :=
  ⟨h.row, fun a ha hn => ⟨(h.off a ha hn).1, fun e => (h.off a ha hn).2 (hs _ (h.off a ha hn).1 e)⟩, fun t ht => hR.weak (h.mem t ht) hs⟩
theorem LRep.mod (hR : RepOk R sz) (hsz : 0 < sz) (h : LRep R w S v xs) (m : Mod S w w') : LRep R w' S v xs := by
  obtain ⟨A, c, ts, h1, h2, h3, h4, h5, h6⟩ := h
  exact ⟨A, c, ts, h1, h2, h3, h4, h5, h6.mod hR hsz m⟩
theorem LRep.weak (hR : RepOk R sz) (h : LRep R w S v xs) (hs : ∀ b, b < w.heap.size → S' b → S b) : LRep R w S' v xs := by
  obtain ⟨A, c, ts, h1, h2, h3, h4, h5, h6⟩ := h
  exact ⟨A, c, ts, h1, h2, h3, h4, h5, h6.weak hR hs⟩
theorem LRep.one (h : LRep R w S v xs) : v.oneCell' = true := by
  obtain ⟨A, c, ts, h1, _⟩ := h
  rw [h1]
  rfl
theorem LRep.nil (w : World) (S : Nat → Prop) (A : Option Addr) (hA : True) : LRep R w S (.slice A 0 0) [] := ⟨A, 0, [], rfl, rfl, Nat.le_refl _, by omega, by simp, Row.nil _ _, fun _ _ h => absurd rfl h, fun _ h => (by cases h)⟩
theorem cells_len (hR : RepOk R sz) (h : ∀ t ∈ ts, R w S t.1 t.2) : (cellsOf ts).length = ts.length * sz := by
  induction ts with
  | nil => simp
  | cons t l ih =>
    have := ih fun y hy => h y (List.mem_cons_of_mem _ hy)
    simp only [cellsOf, List.map_cons, List.flatten_cons, List.length_append, List.length_cons] at this ⊢
    rw [this, hR.len (h t List.mem_cons_self), Nat.succ_mul]
    omega
/-- A member's cells. -/
theorem cells_at (hR : RepOk R sz) : ∀ {ts : List (List Value × α)}, (∀ t ∈ ts, R w S t.1 t.2) → ∀ (i : Nat) (hi : i < ts.length) (k : Nat) (u : Value), ts[i].1[k]? = some u → (cellsOf ts)[i * sz + k]? = some u
  | [], _, i, hi, _, _, _ => by simp at hi
  | t :: l, h, 0, _, k, u, hu => by
    have hk : k < t.1.length := (List.getElem?_eq_some_iff.1 hu).1
    simp only [cellsOf, List.map_cons, List.flatten_cons, Nat.zero_mul, Nat.zero_add]
    rw [List.getElem?_append_left hk]
    exact hu
  | t :: l, h, i + 1, hi, k, u, hu => by
    have hl := hR.len (h t List.mem_cons_self)
    have := cells_at hR (ts := l) (fun y hy => h y (List.mem_cons_of_mem _ hy)) i (by simpa using hi) k u (by simpa using hu)
    simp only [cellsOf, List.map_cons, List.flatten_cons]
    rw [List.getElem?_append_right (by rw [hl, Nat.succ_mul]; omega), hl, show (i + 1) * sz + k - sz = i * sz + k by rw [Nat.succ_mul]; omega]
    exact this
theorem LRow.at_ (hR : RepOk R sz) (hsz : 0 < sz) (h : LRow R w S A ts) {i : Nat} (hi : i < ts.length) : ∃ a, A = some a ∧ ∀ k u, ts[i].1[k]? = some u → w.cell? ((a.add (i * sz)).add k) = some u := by
  have key : ∀ k u, ts[i].1[k]? = some u → ∃ a, A = some a ∧ w.cell? (a.add (i * sz + k)) = some u := fun k u hu => h.row (i * sz + k) u (cells_at hR h.mem i hi k u hu)
  have hl := hR.len (h.mem _ (List.getElem_mem hi))
  obtain ⟨a, ha, _⟩ := key 0 ts[i].1[0] (by simp [List.getElem?_eq_getElem, hl, hsz])
  refine ⟨a, ha, fun k u hu => ?_⟩
  obtain ⟨a', ha', hc⟩ := key k u hu
  rw [ha] at ha'
  cases ha'
  rw [add_add_]
  exact hc
end
theorem cellsOf_snoc {α : Type} (ts : List (List Value × α)) (t : List Value × α) : cellsOf (ts ++ [t]) = cellsOf ts ++ t.1 := by simp [cellsOf]
/-- A member more: those that are there stay. -/
theorem mem_step {α : Type} {R : RepT α} {sz : Nat} (hR : RepOk R sz) {ts : List (List Value × α)} {w wl w5 w7 : World} {o o' : Option Nat} {cs : List Value} {x : α} {h g : Nat} (hts : ∀ t ∈ ts, R wl (fun b => b < w.heap.size ∨ some b = o) t.1 t.2)
    (hx : R w5 (fun b => b < wl.heap.size) cs x) (m5 : Mod (Pool.RS h g) wl w5) (k57 : Mod (fun b => some b = o) w5 w7) (hh : h < w.heap.size) (hg : g < w.heap.size) (hz : w.heap.size ≤ wl.heap.size) (ho : ∀ b, some b = o → w.heap.size ≤ b ∧ b < wl.heap.size)
    (st : ∀ b, some b = o' → some b = o ∨ w5.heap.size ≤ b) : ∀ t ∈ ts ++ [(cs, x)], R w7 (fun b => b < w.heap.size ∨ some b = o') t.1 t.2 := by
  intro t ht
  have m5z := m5.size
  rcases List.mem_append.1 ht with ht | ht
  · have h1 := hR.weak (S' := fun b => (b < w.heap.size ∨ some b = o) ∨ wl.heap.size ≤ b) (hts t ht) fun b hb e => e.resolve_right (by omega)
    have h2 := hR.mod h1 (m5.mono fun b hb e => .inl (.inl (by rcases e with e | e <;> omega)))
    have h3 := hR.mod h2 (k57.mono fun b hb e => .inl (.inr e))
    refine hR.weak h3 fun b hb e => ?_
    rcases e with e | e
    · exact .inl (.inl e)
    · rcases st b e with e | e
      · exact .inl (.inr e)
      · exact .inr (by omega)
  · rw [List.mem_singleton.1 ht]
    have h1 := hR.weak (S' := fun b => (b < w.heap.size ∨ some b = o) ∨ w5.heap.size ≤ b) hx fun b hb e => by
      rcases e with (e | e) | e
      · omega
      · exact (ho b e).2
      · omega
    have h3 := hR.mod h1 (k57.mono fun b hb e => .inl (.inr e))
    refine hR.weak h3 fun b hb e => ?_
    rcases e with e | e
    · exact .inl (.inl e)
    · rcases st b e with e | e
      · exact .inl (.inr e)
      · exact .inr e
abbrev zi (n : Int) : Value := .int .i64 n
def intR : RepT Int := fun _ _ cs x => cs = [zi x]
def valR : RepT Val := fun _ _ cs x => cs = [zi x.kind, zi x.n]
def monR : RepT Mon := fun _ _ cs x => cs = [zi x.ob, zi x.owner, zi x.count]
def objR : RepT Obj := fun w S cs x => ∃ v, cs = [.string ⟨x.ty.toArray⟩, v] ∧ LRep valR w S v x.words
def callR : RepT Call := fun w S cs x => ∃ v u, cs = [zi x.cl, zi x.me, zi x.at_, v, u, zi x.lock] ∧ LRep valR w S v x.locals ∧ LRep valR w S u x.stack
def thrR : RepT Thr := fun w S cs x => ∃ v, cs = [zi x.state, v, zi x.on, zi x.count] ∧ LRep callR w S v x.calls
theorem flat1 : ∀ {u : Value} {n : Int}, u = zi n → u.oneCell' = true := fun h => by rw [h]; rfl
theorem intOk : RepOk intR 1 := ⟨fun h _ => h, fun h _ => h, fun h => by rw [h]; rfl, fun h u hu => by rw [h] at hu; simp only [List.mem_cons, List.not_mem_nil, or_false] at hu; exact flat1 hu⟩
theorem valOk : RepOk valR 2 := ⟨fun h _ => h, fun h _ => h, fun h => by rw [h]; rfl, fun h u hu => by
  rw [h] at hu
  simp only [List.mem_cons, List.not_mem_nil, or_false] at hu
  rcases hu with hu | hu <;> exact flat1 hu⟩
theorem monOk : RepOk monR 3 := ⟨fun h _ => h, fun h _ => h, fun h => by rw [h]; rfl, fun h u hu => by
  rw [h] at hu
  simp only [List.mem_cons, List.not_mem_nil, or_false] at hu
  rcases hu with hu | hu | hu <;> exact flat1 hu⟩
theorem objOk : RepOk objR 2 := ⟨fun ⟨v, h, l⟩ m => ⟨v, h, l.mod valOk (by decide) m⟩, fun ⟨v, h, l⟩ hs => ⟨v, h, l.weak valOk hs⟩, fun ⟨v, h, _⟩ => by rw [h]; rfl, fun ⟨v, h, l⟩ u hu => by
  rw [h] at hu
  simp only [List.mem_cons, List.not_mem_nil, or_false] at hu
  rcases hu with hu | hu
  · rw [hu]; rfl
  · rw [hu]; exact l.one⟩
theorem callOk : RepOk callR 6 := ⟨fun ⟨v, u, h, l, k⟩ m => ⟨v, u, h, l.mod valOk (by decide) m, k.mod valOk (by decide) m⟩, fun ⟨v, u, h, l, k⟩ hs => ⟨v, u, h, l.weak valOk hs, k.weak valOk hs⟩, fun ⟨v, u, h, _⟩ => by rw [h]; rfl, fun ⟨v, u, h, l, k⟩ q hq => by
  rw [h] at hq
  simp only [List.mem_cons, List.not_mem_nil, or_false] at hq
  rcases hq with hq | hq | hq | hq | hq | hq
  · exact flat1 hq
  · exact flat1 hq
  · exact flat1 hq
  · rw [hq]; exact l.one
  · rw [hq]; exact k.one
  · exact flat1 hq⟩
theorem thrOk : RepOk thrR 4 := ⟨fun ⟨v, h, l⟩ m => ⟨v, h, l.mod callOk (by decide) m⟩, fun ⟨v, h, l⟩ hs => ⟨v, h, l.weak callOk hs⟩, fun ⟨v, h, _⟩ => by rw [h]; rfl, fun ⟨v, h, l⟩ q hq => by
  rw [h] at hq
  simp only [List.mem_cons, List.not_mem_nil, or_false] at hq
  rcases hq with hq | hq | hq | hq
  · exact flat1 hq
  · rw [hq]; exact l.one
  · exact flat1 hq
  · exact flat1 hq⟩
/-- A machine's cells. -/
def machC (m : Mach) (vs : Fin 6 → Value) : List Value := [zi m.status, vs 0, vs 1, vs 2, vs 3, zi m.read, vs 4, vs 5, zi m.gone, zi m.steps]
def machR (w : World) (S : Nat → Prop) (cs : List Value) (m : Mach) : Prop := ∃ o s t q i u, cs = [zi m.status, o, s, t, q, zi m.read, i, u, zi m.gone, zi m.steps] ∧
  LRep objR w S o m.objs ∧ LRep valR w S s m.statics ∧ LRep thrR w S t m.thrs ∧ LRep monR w S q m.mons ∧ LRep intR w S i m.ins ∧ LRep intR w S u m.outs
theorem machOk : RepOk machR 10 := ⟨fun ⟨o, s, t, q, i, u, h, h1, h2, h3, h4, h5, h6⟩ m => ⟨o, s, t, q, i, u, h, h1.mod objOk (by decide) m, h2.mod valOk (by decide) m, h3.mod thrOk (by decide) m, h4.mod monOk (by decide) m, h5.mod intOk (by decide) m, h6.mod intOk (by decide) m⟩,
  fun ⟨o, s, t, q, i, u, h, h1, h2, h3, h4, h5, h6⟩ m => ⟨o, s, t, q, i, u, h, h1.weak objOk m, h2.weak valOk m, h3.weak thrOk m, h4.weak monOk m, h5.weak intOk m, h6.weak intOk m⟩,
  fun ⟨o, s, t, q, i, u, h, _⟩ => by rw [h]; rfl, fun ⟨o, s, t, q, i, u, h, h1, h2, h3, h4, h5, h6⟩ z hz => by
  rw [h] at hz
  simp only [List.mem_cons, List.not_mem_nil, or_false] at hz
  rcases hz with hz | hz | hz | hz | hz | hz | hz | hz | hz | hz <;> first
    | exact flat1 hz
    | (rw [hz]; exact h1.one)
    | (rw [hz]; exact h2.one)
    | (rw [hz]; exact h3.one)
    | (rw [hz]; exact h4.one)
    | (rw [hz]; exact h5.one)
    | (rw [hz]; exact h6.one)⟩
/-! ### What is told is read in the machine's order -/
theorem reads_mach {bs : List UInt8} {s1 s2 s3 s4 s5 s6 s7 s8 s9 s10 : RSt} {m : Mach} (h1 : Reads bs n8 (0, false) m.status s1) (h2 : Reads bs n8 s1 m.read s2) (h3 : Reads bs n8 s2 m.gone s3) (h4 : Reads bs n8 s3 m.steps s4)
    (h5 : Reads bs intsF s4 m.ins s5) (h6 : Reads bs intsF s5 m.outs s6) (h7 : Reads bs valsF s6 m.statics s7) (h8 : Reads bs (list 4 w4 objF) s7 m.objs s8) (h9 : Reads bs (list 4 w4 thrF) s8 m.thrs s9) (h10 : Reads bs (list 4 w4 monF) s9 m.mons s10) : Reads bs machF (0, false) m s10 :=
  Reads.via _ _ _ (h1.seq (h2.seq (h3.seq (h4.seq (h5.seq (h6.seq (h7.seq (h8.seq (h9.seq h10)))))))))
theorem reads_parse {bs : List UInt8} {m : Mach} {s : RSt} (h : Reads bs machF (0, false) m s) : parseM bs = if s.2 = false ∧ s.1 = bs.length ∧ bs.length ≤ most then some m else none := by
  obtain ⟨h1, h2, h3⟩ := h
  unfold parseM
  rw [List.drop_zero] at h3
  rcases h3 with h3 | h3 | h3
  · cases h3.1
  · rw [h3.2.2, if_neg (fun h => by rw [h3.2.1] at h; cases h.1)]
    rfl
  · rw [h3.2.2, Option.bind_some]
    have e : (bs.drop s.1 = [] ∧ bs.length ≤ most) ↔ (s.2 = false ∧ s.1 = bs.length ∧ bs.length ≤ most) := by
      rw [List.drop_eq_nil_iff]
      constructor
      · rintro ⟨a, b⟩
        exact ⟨h3.2.1, by omega, b⟩
      · rintro ⟨_, a, b⟩
        exact ⟨by omega, b⟩
    by_cases hc : s.2 = false ∧ s.1 = bs.length ∧ bs.length ≤ most
    · rw [if_pos hc, if_pos (e.2 hc)]
    · rw [if_neg hc, if_neg (fun h => hc (e.1 h))]
theorem reads_call {bs : List UInt8} {s0 s1 s2 s3 s4 s5 s6 : RSt} {c : Call} (h1 : Reads bs n8 s0 c.cl s1) (h2 : Reads bs n8 s1 c.me s2) (h3 : Reads bs n8 s2 c.at_ s3) (h4 : Reads bs n8 s3 c.lock s4)
    (h5 : Reads bs valsF s4 c.locals s5) (h6 : Reads bs valsF s5 c.stack s6) : Reads bs callF s0 c s6 := Reads.via _ _ _ (h1.seq (h2.seq (h3.seq (h4.seq (h5.seq h6)))))
theorem reads_thr {bs : List UInt8} {s0 s1 s2 s3 s4 : RSt} {t : Thr} (h1 : Reads bs n8 s0 t.state s1) (h2 : Reads bs n8 s1 t.on s2) (h3 : Reads bs n8 s2 t.count s3) (h4 : Reads bs (list 4 w4 callF) s3 t.calls s4) : Reads bs thrF s0 t s4 :=
  Reads.via _ _ _ (h1.seq (h2.seq (h3.seq h4)))
theorem reads_mon {bs : List UInt8} {s0 s1 s2 s3 : RSt} {t : Mon} (h1 : Reads bs n8 s0 t.ob s1) (h2 : Reads bs n8 s1 t.owner s2) (h3 : Reads bs n8 s2 t.count s3) : Reads bs monF s0 t s3 := Reads.via _ _ _ (h1.seq (h2.seq h3))
theorem reads_val {bs : List UInt8} {s0 s1 s2 : RSt} {t : Val} (h1 : Reads bs (num 1 false w1) s0 t.kind s1) (h2 : Reads bs n8 s1 t.n s2) : Reads bs valF s0 t s2 := Reads.via _ _ _ (h1.seq h2)
/-- A text read: how many, and these. -/
def tyF : Fmt (List UInt8) := filtF (text 2 w2) fun s => decide (s.length ≤ 255)
theorem reads_obj {bs : List UInt8} {s0 s1 s2 : RSt} {t : Obj} (h1 : Reads bs tyF s0 t.ty s1) (h2 : Reads bs valsF s1 t.words s2) : Reads bs objF s0 t s2 := Reads.via _ _ _ (h1.seq h2)
theorem ty_parse (x : List UInt8) : tyF.parse x = (numP 2 false x).bind fun r => (rawP r.1 r.2).bind fun q => if q.1.length ≤ 255 then some q else none := by
  show Option.bind (Option.bind (numP 2 false x) fun r => rawP r.1 r.2) (fun r => if decide (r.1.length ≤ 255) = true then some r else none) = _
  rw [Option.bind_assoc]
  simp only [decide_eq_true_eq]
theorem ty_bad {bs : List UInt8} {s s1 : RSt} {n : Int} {x : List UInt8} (h : Reads bs (num 2 false w2) s n s1) (hb : s1.2 = true ∨ 255 < n) : Reads bs tyF s x (s1.1, true) := by
  obtain ⟨a, b, h⟩ := h
  refine ⟨a, b, ?_⟩
  rw [ty_parse]
  rcases h with h | h | h
  · exact .inl ⟨h.1, rfl⟩
  · refine .inr (.inl ⟨h.1, rfl, ?_⟩)
    have := h.2.2
    change numP 2 false _ = none at this
    rw [this]
    rfl
  · refine .inr (.inl ⟨h.1, rfl, ?_⟩)
    have h3 := h.2.2
    change numP 2 false _ = _ at h3
    rw [h3, Option.bind_some]
    have hn : 255 < n := by
      rcases hb with hb | hb
      · rw [h.2.1] at hb; cases hb
      · exact hb
    simp only
    unfold rawP
    split
    · rfl
    · rw [Option.bind_some, if_neg]
      rw [List.length_take]
      omega
theorem ty_read {bs : List UInt8} {s s1 : RSt} {n : Int} (h : Reads bs (num 2 false w2) s n s1) (hb : s1.2 = false) (hn : n ≤ 255) (hs : s.2 = false) : Reads bs tyF s (Word.getB bs s1.1 n).1 ((Word.getB bs s1.1 n).2.2, !decide ((Word.getB bs s1.1 n).2.1 = 0)) := by
  obtain ⟨a, b, h⟩ := h
  rcases h with h | h | h
  · rw [h.2] at hb; cases hb
  · rw [h.2.1] at hb; cases hb
  have h3 := h.2.2
  change numP 2 false _ = _ at h3
  have hp := ty_parse (bs.drop s.1)
  rw [h3, Option.bind_some] at hp
  simp only at hp
  unfold rawP at hp
  unfold Word.getB
  split
  · rename_i hneg
    rw [if_pos (.inl hneg)] at hp
    exact ⟨a, b, .inr (.inl ⟨hs, rfl, hp⟩)⟩
  rename_i hneg
  split
  · rename_i hl
    rw [if_pos (.inr (by rw [List.length_drop]; omega))] at hp
    exact ⟨a, b, .inr (.inl ⟨hs, rfl, hp⟩)⟩
  · rename_i hl
    rw [if_neg (by rw [List.length_drop]; omega), Option.bind_some, if_pos (by rw [List.length_take]; omega), List.drop_drop] at hp
    exact ⟨by dsimp only; omega, by dsimp only; omega, .inr (.inr ⟨hs, rfl, hp⟩)⟩
end Go.Proofs.Yteanhakkceancaa.Image

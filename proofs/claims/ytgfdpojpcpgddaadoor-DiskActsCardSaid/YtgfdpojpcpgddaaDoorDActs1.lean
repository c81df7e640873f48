/- The statement DiskActs: helpers of the base, the states, both disks at once. -/
import Derived.Test.YtgfdpojpcpgddaaDoorDRef5
import Derived.Test.YtgfdpojpcpgddaaDoorOpenW
import Derived.Test.YtgfdpojpcpgddaaDoorDStored
import Derived.Test.YtgfdpojpcpgddaaDoorDOpen
namespace Go.Proofs.YtgfdpojpcpgddaaDoor.Disk
open Go Go.Proofs.YtgfdpojpcpgddaaDoor Go.Proofs.YtgfdpojpcpgddaaDoor.Eng Go.Proofs Go.ChangeShapes Go.WideShapes Go.RowKit
set_option maxRecDepth 10000

theorem open_acts2 {H : Type} {enc : TypeId × Value → H} {r : Reach} {b0 : Nat} {v : Value} {d : DataW H} {ps : List MemPlace} {W : World}
    (hval : Value.okWide Tryd.prog W r b0 37 v) (hd : DataW.Trod enc Tryd.prog W 0 (fun _ => true) true 37 v d ps) (hsz : Sz Tryd.prog 37 d) :
    ∃ A n c acts, v = .slice A n c ∧ n = List.length acts ∧ n ≤ c ∧ c ≤ 9223372036854775807 ∧ Rows2 W A 6 (acts.map ActV.cells) ∧ ∀ a ∈ acts, ActOk W a ∧ a.kn * 8 ≤ 140737488351232 := by
  obtain ⟨a0, len, cap, rfl⟩ := okWide_slice uActs hval
  obtain ⟨fuel, hf⟩ := hd
  obtain ⟨A, n, c, css, m, hcs, hn, hc, hm, hr, _, he⟩ := trod_elemsW uActs hf
  simp only [Value.cells, List.cons.injEq, and_true] at hcs
  cases hcs
  rw [cAct] at hr
  have each : ∀ (i : Nat) cs, css[i]? = some cs → ∃ a : ActV, cs = a.cells ∧ ActOk W a ∧ a.kn * 8 ≤ 140737488351232 := by
    intro i cs hi
    obtain ⟨y, hy, hys⟩ := he i cs hi
    obtain ⟨hl, n', hf'⟩ := trod_fieldsW sAct (by simp) hy
    rw [cAct] at hl
    obtain ⟨_, y0, _⟩ := hf' 0 _ _ rfl
    obtain ⟨_, y1, _⟩ := hf' 1 _ _ rfl
    obtain ⟨_, y2, _⟩ := hf' 2 _ _ rfl
    obtain ⟨_, y3, _⟩ := hf' 3 _ _ rfl
    obtain ⟨_, y4, _⟩ := hf' 4 _ _ rfl
    obtain ⟨_, y5, s5⟩ := hf' 5 _ _ rfl
    obtain ⟨z0, g0, b0⟩ := field_int uInt cInt y0
    obtain ⟨z1, g1, b1⟩ := field_int uInt cInt y1
    obtain ⟨z2, g2, b2⟩ := field_int uInt cInt y2
    obtain ⟨z3, g3, b3⟩ := field_int uByte cByte y3
    obtain ⟨z4, g4⟩ := field_bool uBool cBool y4
    obtain ⟨L, ln, lc, zs, g5, h1, h2, h3, h4, h5⟩ := field_i64s uInts uInt cInt cInts y5
    have hsz5 := field_size uInts uInt cInt cInts y5 (s5 (hys hsz)) _ _ _ g5
    rw [show Tryd.prog.bytesOf 3 = 8 by kernel_rfl] at hsz5
    obtain ⟨b, hb⟩ := wf8 b3
    rw [hb] at g3
    exact ⟨⟨z0, z1, z2, b, z4, L, ln, lc, zs⟩, list6 hl g0 g1 g2 g3 g4 g5, ⟨h1, h2, h4, wf64 b2, wf64 b1⟩, hsz5⟩
  obtain ⟨acts, hlen, hacts⟩ := each_of each
  have hmap : css = acts.map ActV.cells := by
    apply List.ext_getElem?
    intro i
    by_cases hi : i < css.length
    · obtain ⟨a, ha, hq, _⟩ := hacts i _ (List.getElem?_eq_getElem hi)
      rw [List.getElem?_map, ha, List.getElem?_eq_getElem hi, hq]
      rfl
    · rw [List.getElem?_eq_none (by omega), List.getElem?_eq_none (by simp; omega)]
  refine ⟨_, _, _, acts, rfl, by omega, hc, hm, hmap ▸ hr, ?_⟩
  intro a ha
  obtain ⟨i, hi, rfl⟩ := List.getElem_of_mem ha
  obtain ⟨a', ha', _, hok⟩ := hacts i _ (List.getElem?_eq_getElem (by omega))
  rw [List.getElem?_eq_getElem hi] at ha'
  cases ha'
  exact hok

theorem Ints_ok (A : Option Addr) (n c : Nat) (zs : List Int) (w : World) (hn : n = zs.length) (hr : Row w A (ivs zs)) (hm : n * 8 ≤ 140737488355328) :
    Calls Tryd.prog 32 #[.slice A n c] w fun e w' => ∃ v, e = .returned v ∧ w'.ownsRow w.heap.size 3 1 v n (ivs zs) ∧ New w w' := by
  refine enter ok Tryd.func32 rfl rfl rfl ?_
  refine append_ ok rfl rfl rfl rfl (own_lit w [] 3 1 0 w.heap.size (Nat.le_refl _) rfl (by omega)) rfl rfl (hr.new (New.alloc _ _)) (by show (ivs zs).length = n * 1; rw [ivs, List.length_map, hn, Nat.mul_one]) (ivs_one zs) (by decide) rfl (by show (0 + n) * 8 ≤ _; omega) (by omega) (by simp) ?_
  intro A' c' w' hown hmod
  refine ⟨_, rfl, ?_, ?_⟩
  · rw [Nat.zero_add] at hown ⊢
    exact hown
  · refine Mod.trans (New.alloc w _) hmod ?_
    intro i hi h
    simp only [Value.ownBlock, Option.some.injEq] at h
    omega
theorem yes_ok (b : Bool) (w : World) : Calls Tryd.prog 26 #[.bool b] w fun e w' => e = .returned (.int .i64 (if b = true then 1 else 0)) ∧ w' = w := by
  refine enter ok Tryd.func26 rfl rfl rfl ?_
  refine if_ (fun h => ?_) (fun h => ?_)
  · rw [if_pos h]
    exact ⟨rfl, rfl⟩
  · rw [if_neg (by rw [h]; simp)]
    exact ⟨rfl, rfl⟩

/-- What an act of DiskActs does. -/
def bytesOf (a : ActV) : Sec := if a.sh = true then (rep a.b).drop 1 else rep a.b
def act7 (s : DS) (a : ActV) : DS :=
  if Base.among a.d 7 < 3 then storeDS s a.at_ (bytesOf a)
  else if Base.among a.d 7 = 3 then barDS s
  else if Base.among a.d 7 = 4 then s
  else if Base.among a.d 7 = 5 then { s with trip := max a.n (-1) }
  else crashDS s a.ks
structure Inv7 (n N : Nat) (s : DS) : Prop where
  len : s.cs.length = n
  trip0 : -1 ≤ s.trip
  trip1 : s.trip ≤ 9223372036854775807
  moves0 : 0 ≤ s.moves
  moves1 : s.moves ≤ N
  ws : ∀ c ∈ s.cs, c.ws.length ≤ N
section
variable {n N : Nat} {s : DS}
theorem Inv7.fine (h : Inv7 n N s) (hN : N ≤ 1000) : s.fine := ⟨h.trip0, h.trip1, h.moves0, by have := h.moves1; omega⟩
theorem Inv7.lim (h : Inv7 n N s) (hN : N ≤ 1000) : ∀ c ∈ s.cs, c.ws.length ≤ 100000 := fun c hc => by have := h.ws c hc; omega
theorem Inv7.up (h : Inv7 n N s) : Inv7 n (N + 1) s := ⟨h.len, h.trip0, h.trip1, h.moves0, by have := h.moves1; omega, fun c hc => Nat.le_succ_of_le (h.ws c hc)⟩
theorem Inv7.mv (h : Inv7 n N s) : Inv7 n (N + 1) s.mv := by
  have := h.trip0
  have := h.trip1
  have := h.moves0
  have := h.moves1
  unfold DS.mv
  split
  · exact ⟨h.len, by dsimp only; omega, by dsimp only; omega, by dsimp only; omega, by dsimp only; omega, fun c hc => Nat.le_succ_of_le (h.ws c hc)⟩
  · exact ⟨h.len, h.trip0, h.trip1, h.moves0, by dsimp only; omega, fun c hc => Nat.le_succ_of_le (h.ws c hc)⟩
theorem Inv7.store (h : Inv7 n N s) (x : Int) (b : Sec) : Inv7 n (N + 1) (storeDS s x b) := by
  have hm := h.mv
  unfold storeDS
  split
  · exact h.up
  rename_i hb
  split
  · refine ⟨by simp [h.len], hm.trip0, hm.trip1, hm.moves0, hm.moves1, fun c hc => ?_⟩
    rcases List.mem_or_eq_of_mem_set hc with hc | hc
    · exact Nat.le_succ_of_le (h.ws c hc)
    · rw [hc]
      have hlt : x.toNat < s.cs.length := by omega
      have hg : s.cs.getD x.toNat ⟨[], []⟩ = s.cs[x.toNat] := by rw [List.getD_eq_getElem?_getD, List.getElem?_eq_getElem hlt]; rfl
      rw [hg]
      have := h.ws _ (List.getElem_mem hlt)
      simp [Cl.put]
      exact this
  · exact hm
theorem Inv7.bar (h : Inv7 n N s) : Inv7 n (N + 1) (barDS s) := by
  have hm := h.mv
  unfold barDS
  split
  · refine ⟨by simp [h.len], hm.trip0, hm.trip1, hm.moves0, hm.moves1, fun c hc => ?_⟩
    obtain ⟨d, _, rfl⟩ := List.mem_map.1 hc
    exact Nat.zero_le _
  · exact hm
theorem Inv7.act (h : Inv7 n N s) (a : ActV) (ha : a.n ≤ 9223372036854775807) : Inv7 n (N + 1) (act7 s a) := by
  have h1 := h.up
  unfold act7
  split
  · exact h.store _ _
  split
  · exact h.bar
  split
  · exact h1
  split
  · exact ⟨h1.len, by show -1 ≤ max a.n (-1); omega, by show max a.n (-1) ≤ _; omega, h1.moves0, h1.moves1, h1.ws⟩
  · exact ⟨by rw [crash_len]; exact h.len, by show (-1 : Int) ≤ -1; decide, by show (-1 : Int) ≤ _; decide, h1.moves0, h1.moves1, fun c hc => by rw [crash_Idle s a.ks c hc]; exact Nat.zero_le _⟩
end
theorem inv7_fresh (n : Nat) : Inv7 n 0 (fresh n) := ⟨by simp [fresh], by simp [fresh], by simp [fresh], by simp [fresh], by simp [fresh], by
  intro c hc
  simp [fresh] at hc
  rw [hc.2]
  simp⟩

/-- Both disks, apart from one another. -/
structure Two (w : World) (base g q g' q' vc : Nat) (vs : Nat → Value) (L : List Value) (n : Nat) (s t : DS) : Prop where
  d : Dk w base g q vs s
  r : Rk w base g' q' vc L t
  ls : s.cs.length = n
  lt : t.cs.length = n
  ap : ∀ b, DSet g q n vs b → ¬ RSet g' q' L b
section
variable {w w' w0 : World} {base g q g' q' vc n : Nat} {vs vs' : Nat → Value} {L L' : List Value} {s t s' t' : DS}
theorem RW.set {b : Nat} (h : RW g' q' b) : RSet g' q' L b := h.elim .inl fun h => .inr (.inl h)
theorem Two.new (h : Two w base g q g' q' vc vs L n s t) (m : New w w') : Two w' base g q g' q' vc vs L n s t := ⟨h.d.new m, h.r.new m, h.ls, h.lt, h.ap⟩
theorem Two.own (h : Two w base g q g' q' vc vs L n s t) (d' : Dk w' base g q vs' s') (hl : s'.cs.length = n) (m : Mod (DSet g q n vs) w w') (f : ∀ b, DSet g q n vs' b → DSet g q n vs b ∨ w.heap.size ≤ b) : Two w' base g q g' q' vc vs' L n s' t :=
  ⟨d', h.r.keep m (fun b hb hd => h.ap b hd hb), hl, h.lt, fun b hb hr => by
    rcases f b hb with h1 | h1
    · exact h.ap b h1 hr
    · have := h.r.all b hr; omega⟩
theorem Two.ref (h : Two w base g q g' q' vc vs L n s t) (r' : Rk w' base g' q' vc L' t') (hl : t'.cs.length = n) (m : Mod (RW g' q') w w') (f : ∀ b, RSet g' q' L' b → RSet g' q' L b ∨ w.heap.size ≤ b) : Two w' base g q g' q' vc vs L' n s t' :=
  ⟨h.d.mod m (fun b hb hr => h.ap b (by rw [← h.ls]; exact hb) (RW.set hr)), r', h.ls, hl, fun b hb hr => by
    rcases f b hr with h1 | h1
    · exact h.ap b hb h1
    · have := (h.d.lt b (by rw [h.ls]; exact hb)).2; omega⟩
theorem Two.farD (h : Two w w0.heap.size g q g' q' vc vs L n s t) (k : New w0 w) (m : Mod (DSet g q n vs) w w') : New w0 w' := h.d.newD k (by rw [h.ls]; exact m)
theorem Two.farR (h : Two w w0.heap.size g q g' q' vc vs L n s t) (k : New w0 w) (m : Mod (RW g' q') w w') : New w0 w' :=
  Mod.trans k m fun b hb e => by
    have h1 := h.r.lt
    have h2 := h.r.bg
    rcases e with rfl | rfl <;> omega
/-- What lies apart from both. -/
def Off (g q n : Nat) (vs : Nat → Value) (g' q' : Nat) (L : List Value) (b : Nat) : Prop := ¬ DSet g q n vs b ∧ ¬ RSet g' q' L b
theorem Two.off (h : Two w base g q g' q' vc vs L n s t) {b : Nat} (hb : w.heap.size ≤ b) : Off g q n vs g' q' L b :=
  ⟨fun e => by have := (h.d.lt b (by rw [h.ls]; exact e)).2; omega, fun e => by have := h.r.all b e; omega⟩
theorem Two.offLow (h : Two w base g q g' q' vc vs L n s t) {b : Nat} (hb : b < base) : ¬ DSet g q n vs b ∧ ¬ RW g' q' b :=
  ⟨fun e => by have := (h.d.lt b (by rw [h.ls]; exact e)).1; omega, fun e => by
    have h1 := h.r.lt
    have h2 := h.r.bg
    rcases e with rfl | rfl <;> omega⟩
theorem Off.own {b : Nat} (h : Off g q n vs g' q' L b) (hb : b < w.heap.size) (f : ∀ b, DSet g q n vs' b → DSet g q n vs b ∨ w.heap.size ≤ b) : Off g q n vs' g' q' L b :=
  ⟨fun e => (f b e).elim h.1 fun e => by omega, h.2⟩
theorem Off.ref {b : Nat} (h : Off g q n vs g' q' L b) (hb : b < w.heap.size) (f : ∀ b, RSet g' q' L' b → RSet g' q' L b ∨ w.heap.size ≤ b) : Off g q n vs g' q' L' b :=
  ⟨h.1, fun e => (f b e).elim h.2 fun e => by omega⟩
theorem Two.keep {S : Nat → Prop} (h : Two w base g q g' q' vc vs L n s t) (m : Mod S w w') (hS : ∀ b, S b → Off g q n vs g' q' L b) : Two w' base g q g' q' vc vs L n s t :=
  ⟨h.d.mod m (fun b hb e => (hS b e).1 (by rw [← h.ls]; exact hb)), h.r.keep m (fun b hb e => (hS b e).2 hb), h.ls, h.lt, h.ap⟩
end
end Go.Proofs.YtgfdpojpcpgddaaDoor.Disk

/- The package pool, walked: entries read. -/
import Derived.Test.YtbmlfbcanjobfaaPRead
import Derived.Test.YtbmlfbcanjobfaaPWalk11
import Derived.Test.YtbmlfbcanjobfaaWPut
import Derived.Test.YtbmlfbcanjobfaaStr
namespace Go.Proofs.Ytbmlfbcanjobfaa.Pool
open Go Go.Proofs.Ytbmlfbcanjobfaa Go.Proofs.Ytbmlfbcanjobfaa.Eng Go.Proofs Go.Proofs.Ytbmlfbcanjobfaa.Word
set_option maxRecDepth 10000

theorem rd_modN {S : Nat → Prop} {w w' : World} {g : Nat} {A : Option Addr} {c : Nat} {bs : List UInt8} {i : Nat} (h : Rd w g A c bs i) (k : Mod S w w') (hg : ¬ S g) (ha : ∀ a, A = some a → bs ≠ [] → ¬ S a.block) : Rd w' g A c bs i :=
  ⟨k.blk h.blk hg, row_modN h.row k ha, h.off, h.at_, h.cap, h.top⟩
theorem rd_low {w : World} {g : Nat} {A : Option Addr} {c : Nat} {bs : List UInt8} {i : Nat} (h : Rd w g A c bs i) : ∀ a, A = some a → bs ≠ [] → a.block < w.heap.size := row_low h.row
/-- A reader of entries in memory. -/
structure Pr (w : World) (h g : Nat) (A : Option Addr) (c : Nat) (bs : List UInt8) (s : Nat × Int) : Prop where
  blk : w.heap[h]? = some (.cells #[.pointer (some ⟨g, 0, none⟩), .int .i64 s.2] 87 (0, 0))
  rd : Rd w g A c bs s.1
  ne : h ≠ g
  off : ∀ a, A = some a → bs ≠ [] → a.block ≠ h
theorem Pr.modN {S : Nat → Prop} {w w' : World} {h g : Nat} {A : Option Addr} {c : Nat} {bs : List UInt8} {s : Nat × Int} (p : Pr w h g A c bs s) (k : Mod S w w') (hh : ¬ S h) (hg : ¬ S g) (ha : ∀ a, A = some a → bs ≠ [] → ¬ S a.block) : Pr w' h g A c bs s :=
  ⟨k.blk p.blk hh, rd_modN p.rd k hg ha, p.ne, p.off⟩
theorem Pr.new {w w' : World} {h g : Nat} {A : Option Addr} {c : Nat} {bs : List UInt8} {s : Nat × Int} (p : Pr w h g A c bs s) (k : New w w') : Pr w' h g A c bs s := p.modN k (fun e => e) (fun e => e) (fun _ _ _ e => e)
theorem Pr.lt {w : World} {h g : Nat} {A : Option Addr} {c : Nat} {bs : List UInt8} {s : Nat × Int} (p : Pr w h g A c bs s) : h < w.heap.size ∧ g < w.heap.size := ⟨(Array.getElem?_eq_some_iff.1 p.blk).1, p.rd.lt⟩
/-- What reading may turn. -/
abbrev RS (h g : Nat) : Nat → Prop := fun b => b = g ∨ b = h
theorem both {S : Nat → Prop} {a b c : World} (h : Mod S a b) (k : Mod S b c) : Mod S a c := Mod.trans h k fun _ _ h => h
theorem number_ok (h g : Nat) (A : Option Addr) (c : Nat) (bs : List UInt8) (s : Nat × Int) (k : Nat) (sign : Bool) (w : World) (p : Pr w h g A c bs s) :
    Calls Try.prog 44 #[.pointer (some ⟨h, 0, none⟩), .int .i64 (k : Int), .bool sign] w fun e w' => e = .returned (.int .i64 (numR bs sign k s).1) ∧ Pr w' h g A c bs (numR bs sign k s).2 ∧ Mod (RS h g) w w' := by
  refine enter ok Try.func44 rfl rfl rfl ?_
  refine Exists.intro s.2 (And.intro (cellB p.blk rfl) ?_)
  unfold numR
  refine if_n (fun hne => ?_) (fun h0 => ?_)
  · rw [if_neg (show ¬ s.2 = 0 from hne)]
    exact ⟨rfl, p, (New.refl w).mod⟩
  rw [if_pos (show s.2 = 0 from h0)]
  refine Exists.intro (some ⟨g, 0, none⟩) (And.intro (cellB p.blk rfl) ?_)
  cases sign with
  | true =>
    refine Exists.intro (some ⟨g, 0, none⟩) (And.intro (cellB p.blk rfl) ?_)
    refine call_ (S_ok g A c bs s.1 k w p.rd) ?_
    rintro e w4 ⟨rfl, rd4, m4⟩
    refine ⟨_, rfl, ?_⟩
    have hb4 := m4.blk p.blk p.ne
    refine And.intro ⟨_, cellB hb4 rfl⟩ (And.intro (fzB hb4 _) (force_ ?_))
    refine stK hb4 (show (1 : Nat) < 2 by decide) ?_
    intro w5 hb5 m5 s5
    exact ⟨rfl, ⟨hb5, rd_modN rd4 m5 (fun e => p.ne e.symm) (fun a ha hb e => p.off a ha hb e), p.ne, p.off⟩, both (m4.mono fun _ _ e => .inl e) (m5.mono fun _ _ e => .inr e)⟩
  | false =>
    refine call_ (U_ok g A c bs s.1 k w p.rd) ?_
    rintro e w4 ⟨rfl, rd4, m4⟩
    refine ⟨_, rfl, ?_⟩
    have hb4 := m4.blk p.blk p.ne
    refine And.intro ⟨_, cellB hb4 rfl⟩ (And.intro (fzB hb4 _) (force_ ?_))
    refine stK hb4 (show (1 : Nat) < 2 by decide) ?_
    intro w5 hb5 m5 s5
    exact ⟨rfl, ⟨hb5, rd_modN rd4 m5 (fun e => p.ne e.symm) (fun a ha hb e => p.off a ha hb e), p.ne, p.off⟩, both (m4.mono fun _ _ e => .inl e) (m5.mono fun _ _ e => .inr e)⟩

theorem entry_ok (h g : Nat) (A : Option Addr) (c : Nat) (bs : List UInt8) (s : Nat × Int) (w : World) (p : Pr w h g A c bs s) (hm : bs.length ≤ 140737488355328) :
    Calls Try.prog 45 #[.pointer (some ⟨h, 0, none⟩)] w fun e w' => e = .returned (entV (entR bs s).1) ∧ Pr w' h g A c bs (entR bs s).2 ∧ Mod (RS h g) w w' := by
  refine enter ok Try.func45 rfl rfl rfl ?_
  have n0 := New.alloc w (.cells entZ 67)
  have hb0 := heap_alloc_new w (.cells entZ 67)
  have hlow := rd_low p.rd
  obtain ⟨hh, hg⟩ := p.lt
  have sz : (w.alloc (.cells entZ 67)).heap.size = w.heap.size + 1 := by simp
  refine call_ (number_ok h g A c bs s 1 false (w.alloc (.cells entZ 67)) (p.new n0)) ?_
  rintro e w1 ⟨rfl, p1, m1⟩
  refine ⟨_, rfl, ?_⟩
  have hb1 := m1.blk hb0 (by rintro (e | e) <;> omega)
  have k1 : Mod (RS h g) w w1 := both n0.mod m1
  have s1 := m1.size
  refine And.intro rfl ?_
  refine storeNew (vs := entC ⟨(numR bs false 1 s).1, [], 0, 0, 0⟩) (arr := entZ) rfl (entC_one _) ?_
  intro w2 hb2 n2 s2
  have p2 := p1.new n2
  have hr2 := n2.blk hb1
  have k2 : Mod (RS h g) w w2 := both k1 n2.mod
  generalize hx : w1.heap.size = x at hb2 s2
  unfold entR
  generalize hst : (numR bs false 1 s).2 = st at p2
  generalize htg : (numR bs false 1 s).1 = t at hb2
  clear p1
  -- the entry's end: it is laid into the result and read
  have done : ∀ (y : Ent) (s' : Nat × Int) w', Pr w' h g A c bs s' → Mod (RS h g) w w' → w'.heap[w.heap.size]? = some (.cells entZ 67 (0, 0)) → ∀ w'', w''.heap[w.heap.size]? = some (.cells (entC y).toArray 67 (0, 0)) → Mod (fun b => b = w.heap.size) w' w'' → Pr w'' h g A c bs s' ∧ Mod (RS h g) w w'' := fun y s' w' q k hb w'' hb'' m =>
    ⟨q.modN m (by omega) (by omega) (fun a ha hn e => by have := hlow a ha hn; omega), Mod.trans k m fun b hb e => by omega⟩
  refine Exists.intro st.2 (And.intro (cellB p2.blk rfl) ?_)
  refine if_n (fun hne => ?_) (fun h0 => ?_)
  · rw [if_neg (show ¬ st.2 = 0 from hne)]
    refine loadN_row (vs := entC ⟨t, [], 0, 0, 0⟩) (rowB hb2) rfl ?_
    refine And.intro rfl ?_
    refine storeN_all (vs := entC ⟨t, [], 0, 0, 0⟩) hr2 rfl (entC_one _) ?_
    intro w90 hb90 m90 s90
    refine loadN_row (vs := entC ⟨t, [], 0, 0, 0⟩) (rowB hb90) rfl ?_
    obtain ⟨q90, k90⟩ := done ⟨t, [], 0, 0, 0⟩ st w2 p2 k2 hr2 w90 hb90 m90
    exact ⟨rfl, q90, k90⟩
  rw [if_pos (show st.2 = 0 from h0)]
  refine skip_ (thenF_ ?_)
  have hxn : ¬ RS h g x := by rintro (e | e) <;> omega
  have hrn : ¬ RS h g w.heap.size := by rintro (e | e) <;> omega
  have hrx : ¬ w.heap.size = x := by omega
  have hhx : ¬ h = x := by omega
  have hgx : ¬ g = x := by omega
  have hax : ∀ a, A = some a → bs ≠ [] → ¬ a.block = x := fun a ha hn e => by have := hlow a ha hn; omega
  refine seq_cut (σ := Ent × Nat × Int) (fun _ => [(0, .pointer (some ⟨h, 0, none⟩)), (2, .pointer (some ⟨w.heap.size, 0, none⟩)), (3, .pointer (some ⟨x, 0, none⟩))])
    (fun y w' => y = bodyR bs t st ∧ Pr w' h g A c bs y.2 ∧ Mod (RS h g) w w' ∧ w'.heap[w.heap.size]? = some (.cells entZ 67 (0, 0)) ∧ w'.heap[x]? = some (.cells (entC y.1).toArray 67 (0, 0))) ?_ ?_
  · rintro y w3 fr3 ⟨rfl, p3, k3, hr3, hb3⟩
    refine loadN_row (vs := entC (bodyR bs t st).1) (rowB hb3) rfl ?_
    refine And.intro rfl ?_
    refine storeN_all (vs := entC (bodyR bs t st).1) hr3 rfl (entC_one _) ?_
    intro w90 hb90 m90 s90
    refine loadN_row (vs := entC (bodyR bs t st).1) (rowB hb90) rfl ?_
    obtain ⟨q90, k90⟩ := done (bodyR bs t st).1 (bodyR bs t st).2 w3 p3 k3 hr3 w90 hb90 m90
    exact ⟨rfl, q90, k90⟩
  intro K hK
  unfold bodyR at hK
  refine Exists.intro t (And.intro (cellB hb2 rfl) ?_)
  refine if_p (fun h1 => ?_) (fun h1 => ?_)
  · replace h1 : t = 1 := h1
    rw [if_pos h1] at hK
    unfold textR at hK
    refine call_ (number_ok h g A c bs st 2 false w2 p2) ?_
    rintro e w5 ⟨rfl, p5, m5⟩
    refine ⟨_, rfl, ?_⟩
    have hb5 := m5.blk hb2 hxn
    have hr5 := m5.blk hr2 hrn
    have k5 := both k2 m5
    generalize numR bs false 2 st = n5 at hK p5
    refine Exists.intro n5.2.2 (And.intro (cellB p5.blk rfl) ?_)
    refine if_p (fun hz => ?_) (fun hz => ?_)
    · rw [if_pos (show n5.2.2 = 0 from hz)] at hK
      refine Exists.intro (some ⟨g, 0, none⟩) (And.intro (cellB p5.blk rfl) ?_)
      refine call_ (RBytes_ok g A c bs n5.2.1 n5.1 w5 p5.rd hm) ?_
      rintro e w6 ⟨v6, rfl, own6, rd6, m6⟩
      obtain ⟨A6, c6, rfl, _, _, row6, _⟩ := own_slice own6
      refine ⟨_, rfl, ?_⟩
      have hb6 := m6.blk hb5 (fun e => hgx e.symm)
      have hr6 := m6.blk hr5 (by omega)
      have hp6 := m6.blk p5.blk p5.ne
      have k6 := both k5 (m6.mono fun _ _ e => .inl e)
      refine Exists.intro (getB bs n5.2.1 n5.1).1 (And.intro rfl (And.intro row6 ?_))
      refine And.intro ⟨_, cellB hb6 rfl⟩ (And.intro (fzB hb6 _) (force_ ?_))
      refine stK hb6 (show (1 : Nat) < 5 by decide) ?_
      intro w7 hb7 m7 s7
      have hp7 := m7.blk hp6 hhx
      have rd7 := rd_modN rd6 m7 hgx hax
      have hr7 := m7.blk hr6 hrx
      have k7 : Mod (RS h g) w w7 := Mod.trans k6 m7 fun b hb e => by omega
      refine And.intro ⟨_, cellB hp7 rfl⟩ (And.intro (fzB hp7 _) (force_ ?_))
      refine stK hp7 (show (1 : Nat) < 2 by decide) ?_
      intro w8 hp8 m8 s8
      have rd8 := rd_modN rd7 m8 (fun e => p5.ne e.symm) (fun a ha hn e => p5.off a ha hn e)
      have hr8 := m8.blk hr7 (by omega)
      have hb8 := m8.blk hb7 (by omega)
      have k8 := both k7 (m8.mono fun _ _ e => .inr e)
      refine hK (⟨1, (getB bs n5.2.1 n5.1).1, 0, 0, 0⟩, (getB bs n5.2.1 n5.1).2.2, (getB bs n5.2.1 n5.1).2.1) _ _ ⟨rfl, rfl, rfl, trivial⟩ ⟨by rw [h1], ⟨hp8, rd8, p5.ne, p5.off⟩, k8, hr8, ?_⟩
      subst h1
      exact hb8
    · rw [if_neg (show ¬ n5.2.2 = 0 from hz)] at hK
      refine hK (⟨t, [], 0, 0, 0⟩, n5.2) _ _ ⟨rfl, rfl, rfl, trivial⟩ ⟨rfl, p5, k5, hr5, hb5⟩
  replace h1 : ¬ t = 1 := h1
  rw [if_neg h1] at hK
  refine if_p (fun h3 => ?_) (fun h3 => ?_)
  · replace h3 : t = 3 := h3
    rw [if_pos h3] at hK
    refine call_ (number_ok h g A c bs st 4 true w2 p2) ?_
    rintro e w5 ⟨rfl, p5, m5⟩
    refine ⟨_, rfl, ?_⟩
    have hb5 := m5.blk hb2 hxn
    have hr5 := m5.blk hr2 hrn
    have k5 := both k2 m5
    refine And.intro ⟨_, cellB hb5 rfl⟩ (And.intro (fzB hb5 _) (force_ ?_))
    refine stK hb5 (show (2 : Nat) < 5 by decide) ?_
    intro w7 hb7 m7 s7
    have p7 := p5.modN m7 hhx hgx hax
    have hr7 := m7.blk hr5 hrx
    have k7 : Mod (RS h g) w w7 := Mod.trans k5 m7 fun b hb e => by omega
    refine hK (⟨t, [], (numR bs true 4 st).1, 0, 0⟩, (numR bs true 4 st).2) _ _ ⟨rfl, rfl, rfl, trivial⟩ ⟨rfl, p7, k7, hr7, hb7⟩
  replace h3 : ¬ t = 3 := h3
  rw [if_neg h3] at hK
  refine if_p (fun h5 => ?_) (fun h5 => ?_)
  · replace h5 : t = 5 := h5
    rw [if_pos h5] at hK
    refine call_ (number_ok h g A c bs st 8 true w2 p2) ?_
    rintro e w5 ⟨rfl, p5, m5⟩
    refine ⟨_, rfl, ?_⟩
    have hb5 := m5.blk hb2 hxn
    have hr5 := m5.blk hr2 hrn
    have k5 := both k2 m5
    refine And.intro ⟨_, cellB hb5 rfl⟩ (And.intro (fzB hb5 _) (force_ ?_))
    refine stK hb5 (show (2 : Nat) < 5 by decide) ?_
    intro w7 hb7 m7 s7
    have p7 := p5.modN m7 hhx hgx hax
    have hr7 := m7.blk hr5 hrx
    have k7 : Mod (RS h g) w w7 := Mod.trans k5 m7 fun b hb e => by omega
    refine hK (⟨t, [], (numR bs true 8 st).1, 0, 0⟩, (numR bs true 8 st).2) _ _ ⟨rfl, rfl, rfl, trivial⟩ ⟨rfl, p7, k7, hr7, hb7⟩
  replace h5 : ¬ t = 5 := h5
  rw [if_neg h5] at hK
  --CUT
  refine seq_cut (σ := Unit) (fun _ => [(0, .pointer (some ⟨h, 0, none⟩)), (2, .pointer (some ⟨w.heap.size, 0, none⟩)), (3, .pointer (some ⟨x, 0, none⟩)), (17, .int .i64 t), (56, .bool (decide (t = 9 ∨ t = 10 ∨ t = 12)))]) (fun _ w' => w' = w2) ?_ ?_
  rotate_left
  · intro K2 hK2
    refine if_p (fun h9 => ?_) (fun h9 => ?_)
    · exact hK2 () _ _ ⟨rfl, rfl, rfl, rfl, (show Value.bool (decide (t = 9)) = _ by rw [decide_eq_true (show t = 9 from h9), decide_eq_true (show t = 9 ∨ t = 10 ∨ t = 12 from .inl h9)]), trivial⟩ rfl
    replace h9 : ¬ t = 9 := h9
    refine if_p (fun h10 => ?_) (fun h10 => ?_)
    · exact hK2 () _ _ ⟨rfl, rfl, rfl, rfl, (show Value.bool (decide (t = 10)) = _ by rw [decide_eq_true (show t = 10 from h10), decide_eq_true (show t = 9 ∨ t = 10 ∨ t = 12 from .inr (.inl h10))]), trivial⟩ rfl
    replace h10 : ¬ t = 10 := h10
    refine hK2 () _ _ ⟨rfl, rfl, rfl, rfl, (show Value.bool (decide (t = 12)) = .bool (decide (t = 9 ∨ t = 10 ∨ t = 12)) from ?_), trivial⟩ rfl
    congr 1
    by_cases h12 : t = 12
    · rw [decide_eq_true h12, decide_eq_true (show t = 9 ∨ t = 10 ∨ t = 12 from .inr (.inr h12))]
    · rw [decide_eq_false h12, decide_eq_false (show ¬ (t = 9 ∨ t = 10 ∨ t = 12) by omega)]
  rintro _ w2' fr2 rfl
  refine if_p (fun h9 => ?_) (fun h9 => ?_)
  · replace h9 : t = 9 ∨ t = 10 ∨ t = 12 := h9
    rw [if_pos h9] at hK
    refine call_ (number_ok h g A c bs st 2 false w2' p2) ?_
    rintro e w5 ⟨rfl, p5, m5⟩
    refine ⟨_, rfl, ?_⟩
    have hb5 := m5.blk hb2 hxn
    have hr5 := m5.blk hr2 hrn
    have k5 := both k2 m5
    refine And.intro ⟨_, cellB hb5 rfl⟩ (And.intro (fzB hb5 _) (force_ ?_))
    refine stK hb5 (show (3 : Nat) < 5 by decide) ?_
    intro w7 hb7 m7 s7
    have p7 := p5.modN m7 hhx hgx hax
    have hr7 := m7.blk hr5 hrx
    have k7 : Mod (RS h g) w w7 := Mod.trans k5 m7 fun b hb e => by omega
    refine call_ (number_ok h g A c bs _ 2 false w7 p7) ?_
    rintro e w8 ⟨rfl, p8, m8⟩
    refine ⟨_, rfl, ?_⟩
    have hb8 := m8.blk hb7 hxn
    have hr8 := m8.blk hr7 hrn
    have k8 := both k7 m8
    refine And.intro ⟨_, cellB hb8 rfl⟩ (And.intro (fzB hb8 _) (force_ ?_))
    refine stK hb8 (show (4 : Nat) < 5 by decide) ?_
    intro w9 hb9 m9 s9
    have p9 := p8.modN m9 hhx hgx hax
    have hr9 := m9.blk hr8 hrx
    have k9 : Mod (RS h g) w w9 := Mod.trans k8 m9 fun b hb e => by omega
    refine hK (⟨t, [], 0, (numR bs false 2 st).1, (numR bs false 2 (numR bs false 2 st).2).1⟩, (numR bs false 2 (numR bs false 2 st).2).2) _ _ ⟨rfl, rfl, rfl, trivial⟩ ⟨rfl, p9, k9, hr9, hb9⟩
  replace h9 : ¬ (t = 9 ∨ t = 10 ∨ t = 12) := h9
  rw [if_neg h9] at hK
  refine if_p (fun h7 => ?_) (fun h7 => ?_)
  · replace h7 : t = 7 := h7
    rw [if_pos h7] at hK
    refine call_ (number_ok h g A c bs st 2 false w2' p2) ?_
    rintro e w5 ⟨rfl, p5, m5⟩
    refine ⟨_, rfl, ?_⟩
    have hb5 := m5.blk hb2 hxn
    have hr5 := m5.blk hr2 hrn
    have k5 := both k2 m5
    refine And.intro ⟨_, cellB hb5 rfl⟩ (And.intro (fzB hb5 _) (force_ ?_))
    refine stK hb5 (show (3 : Nat) < 5 by decide) ?_
    intro w7 hb7 m7 s7
    have p7 := p5.modN m7 hhx hgx hax
    have hr7 := m7.blk hr5 hrx
    have k7 : Mod (RS h g) w w7 := Mod.trans k5 m7 fun b hb e => by omega
    refine hK (⟨t, [], 0, (numR bs false 2 st).1, 0⟩, (numR bs false 2 st).2) _ _ ⟨rfl, rfl, rfl, trivial⟩ ⟨rfl, p7, k7, hr7, hb7⟩
  · replace h7 : ¬ t = 7 := h7
    rw [if_neg h7] at hK
    have hp2 := p2.blk
    refine And.intro ⟨_, cellB hp2 rfl⟩ (And.intro (fzB hp2 _) (force_ ?_))
    refine stK hp2 (show (1 : Nat) < 2 by decide) ?_
    intro w8 hp8 m8 s8
    have rd8 := rd_modN p2.rd m8 (fun e => p2.ne e.symm) (fun a ha hn e => p2.off a ha hn e)
    refine hK (⟨t, [], 0, 0, 0⟩, st.1, 70) _ _ ⟨rfl, rfl, rfl, trivial⟩ ⟨rfl, ⟨hp8, rd8, p2.ne, p2.off⟩, both k2 (m8.mono fun _ _ e => .inr e), m8.blk hr2 (by omega), m8.blk hb2 (by omega)⟩
end Go.Proofs.Ytbmlfbcanjobfaa.Pool

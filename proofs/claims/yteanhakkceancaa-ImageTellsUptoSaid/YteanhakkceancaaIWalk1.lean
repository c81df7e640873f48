/- The package image, walked: numbers, values, and lists of them. Printed by genread.py. -/
import Derived.Test.YteanhakkceancaaIReads
import Derived.Test.YteanhakkceancaaWRef3
import Derived.Test.YteanhakkceancaaCell
namespace Go.Proofs.Yteanhakkceancaa.Image
open Go Go.Proofs.Yteanhakkceancaa Go.Proofs.Yteanhakkceancaa.Eng Go.Proofs Go.Proofs.Yteanhakkceancaa.Word Go.Proofs.Yteanhakkceancaa.Fmt
open Go.Proofs.Yteanhakkceancaa.Pool (rd_modN rd_low RS both own_low)
set_option maxRecDepth 10000

/-- A reader of machines in memory. -/
structure Ir (w : World) (h g : Nat) (A : Option Addr) (c : Nat) (bs : List UInt8) (s : RSt) : Prop where
  blk : w.heap[h]? = some (.cells #[.pointer (some ⟨g, 0, none⟩), .bool s.2] 84 (0, 0))
  rd : Rd w g A c bs s.1
  ne : h ≠ g
  off : ∀ a, A = some a → bs ≠ [] → a.block ≠ h
theorem Ir.modN {S : Nat → Prop} {w w' : World} {h g : Nat} {A : Option Addr} {c : Nat} {bs : List UInt8} {s : RSt} (p : Ir w h g A c bs s) (k : Mod S w w') (hh : ¬ S h) (hg : ¬ S g) (ha : ∀ a, A = some a → bs ≠ [] → ¬ S a.block) : Ir w' h g A c bs s :=
  ⟨k.blk p.blk hh, rd_modN p.rd k hg ha, p.ne, p.off⟩
theorem Ir.new {w w' : World} {h g : Nat} {A : Option Addr} {c : Nat} {bs : List UInt8} {s : RSt} (p : Ir w h g A c bs s) (k : New w w') : Ir w' h g A c bs s := p.modN k (fun e => e) (fun e => e) (fun _ _ _ e => e)
theorem Ir.lt {w : World} {h g : Nat} {A : Option Addr} {c : Nat} {bs : List UInt8} {s : RSt} (p : Ir w h g A c bs s) : h < w.heap.size ∧ g < w.heap.size := ⟨(Array.getElem?_eq_some_iff.1 p.blk).1, p.rd.lt⟩
theorem Ir.low {w : World} {h g : Nat} {A : Option Addr} {c : Nat} {bs : List UInt8} {s : RSt} (p : Ir w h g A c bs s) : ∀ a, A = some a → bs ≠ [] → a.block < w.heap.size := rd_low p.rd
theorem Ir.set {w w' : World} {h g : Nat} {A : Option Addr} {c : Nat} {bs : List UInt8} {s : RSt} (p : Ir w h g A c bs s) (m : Mod (fun b => b = h) w w') {b : Bool} (hb : w'.heap[h]? = some (.cells #[.pointer (some ⟨g, 0, none⟩), .bool b] 84 (0, 0))) : Ir w' h g A c bs (s.1, b) :=
  ⟨hb, rd_modN p.rd m (fun e => p.ne e.symm) (fun a ha hn e => p.off a ha hn e), p.ne, p.off⟩
/-- A new block is none of the reader's. -/
theorem Ir.loc {w w' w'' : World} {h g : Nat} {A : Option Addr} {c : Nat} {bs : List UInt8} {s : RSt} {x : Nat} (p : Ir w h g A c bs s) {s' : RSt} (p' : Ir w' h g A c bs s') (m : Mod (fun b => b = x) w' w'') (hx : w.heap.size ≤ x) : Ir w'' h g A c bs s' :=
  p'.modN m (fun e => by have := p.lt; omega) (fun e => by have := p.lt; omega) (fun a ha hn e => by have := p.low a ha hn; omega)
def wayF (sign : Bool) : FuncId := bif sign then 68 else 69
abbrev wayV (sign : Bool) (g : Nat) : Value := .func (.func (wayF sign)) #[.pointer (some ⟨g, 0, none⟩)] #[]
theorem get_ok (h g : Nat) (A : Option Addr) (c : Nat) (bs : List UInt8) (s : RSt) (sign : Bool) (k : Nat) (hk : wide (k : Int) = true) (w : World) (p : Ir w h g A c bs s) :
    Calls Try.prog 67 #[.pointer (some ⟨h, 0, none⟩), wayV sign g, .int .i64 (k : Int)] w fun e w' => ∃ n s', e = .returned (zi n) ∧ Reads bs (num k sign hk) s n s' ∧ (k = 1 ∨ k = 2 ∨ k = 4 → -2147483648 ≤ n ∧ n ≤ 4294967295) ∧ Ir w' h g A c bs s' ∧ Mod (RS h g) w w' := by
  obtain ⟨i, b⟩ := s
  have hat := p.rd.at_
  cases sign with
  | true =>
    refine enter ok Try.func67 rfl rfl rfl ?_
    refine Exists.intro b (And.intro (cellB p.blk rfl) ?_)
    refine if_ (fun hne => ?_) (fun h0 => ?_)
    · exact ⟨0, (i, b), rfl, Reads.bad hne hat 0, fun _ => by decide, p, (New.refl w).mod⟩
    subst h0
    refine call_ (S_ok g A c bs i k w p.rd) ?_
    rintro e w4 ⟨rfl, rd4, m4⟩
    refine ⟨_, rfl, ?_⟩
    have hb4 := m4.blk p.blk p.ne
    refine And.intro ⟨_, cellB hb4 rfl⟩ (And.intro (fzB hb4 _) (force_ ?_))
    refine stK hb4 (show (1 : Nat) < 2 by decide) ?_
    intro w5 hb5 m5 s5
    exact ⟨_, _, rfl, Reads.num true hk i hat, fun h => get_bound true bs i k h, ⟨hb5, rd_modN rd4 m5 (fun e => p.ne e.symm) (fun a ha hb e => p.off a ha hb e), p.ne, p.off⟩, both (m4.mono fun _ _ e => .inl e) (m5.mono fun _ _ e => .inr e)⟩
  | false =>
    refine enter ok Try.func67 rfl rfl rfl ?_
    refine Exists.intro b (And.intro (cellB p.blk rfl) ?_)
    refine if_ (fun hne => ?_) (fun h0 => ?_)
    · exact ⟨0, (i, b), rfl, Reads.bad hne hat 0, fun _ => by decide, p, (New.refl w).mod⟩
    subst h0
    refine call_ (U_ok g A c bs i k w p.rd) ?_
    rintro e w4 ⟨rfl, rd4, m4⟩
    refine ⟨_, rfl, ?_⟩
    have hb4 := m4.blk p.blk p.ne
    refine And.intro ⟨_, cellB hb4 rfl⟩ (And.intro (fzB hb4 _) (force_ ?_))
    refine stK hb4 (show (1 : Nat) < 2 by decide) ?_
    intro w5 hb5 m5 s5
    exact ⟨_, _, rfl, Reads.num false hk i hat, fun h => get_bound false bs i k h, ⟨hb5, rd_modN rd4 m5 (fun e => p.ne e.symm) (fun a ha hb e => p.off a ha hb e), p.ne, p.off⟩, both (m4.mono fun _ _ e => .inl e) (m5.mono fun _ _ e => .inr e)⟩
theorem number_ok (h g : Nat) (A : Option Addr) (c : Nat) (bs : List UInt8) (s : RSt) (w : World) (p : Ir w h g A c bs s) :
    Calls Try.prog 38 #[.pointer (some ⟨h, 0, none⟩)] w fun e w' => ∃ n s', e = .returned (zi n) ∧ Reads bs n8 s n s' ∧ Ir w' h g A c bs s' ∧ Mod (RS h g) w w' := by
  refine enter ok Try.func38 rfl rfl rfl ?_
  refine Exists.intro (some ⟨g, 0, none⟩) (And.intro (cellB p.blk rfl) ?_)
  refine call_ (get_ok h g A c bs s true 8 w8 w p) ?_
  rintro e w1 ⟨n, s1, rfl, rd1, _, p1, m1⟩
  refine ⟨_, rfl, ?_⟩
  exact ⟨n, s1, rfl, rd1, p1, m1⟩
/-- The same, as a member. -/
theorem numberM (h g : Nat) (A : Option Addr) (c : Nat) (bs : List UInt8) (s : RSt) (w : World) (p : Ir w h g A c bs s) :
    Calls Try.prog 38 #[.pointer (some ⟨h, 0, none⟩)] w fun e w' => ∃ cs x s', e = .returned (cs.headD undef) ∧ intR w' (fun b => b < w.heap.size) cs x ∧ Reads bs n8 s x s' ∧ Ir w' h g A c bs s' ∧ Mod (RS h g) w w' :=
  (number_ok h g A c bs s w p).mono fun _ _ ⟨n, s', h1, h2, h3, h4⟩ => ⟨[zi n], n, s', h1, rfl, h2, h3, h4⟩
theorem value_ok (h g : Nat) (A : Option Addr) (c : Nat) (bs : List UInt8) (s : RSt) (w : World) (p : Ir w h g A c bs s) :
    Calls Try.prog 41 #[.pointer (some ⟨h, 0, none⟩)] w fun e w' => ∃ cs x s', e = .returned (.agg cs.toArray) ∧ valR w' (fun b => b < w.heap.size) cs x ∧ Reads bs valF s x s' ∧ Ir w' h g A c bs s' ∧ Mod (RS h g) w w' := by
  refine enter ok Try.func41 rfl rfl rfl ?_
  have n0 := New.alloc w (.cells #[zi 0, zi 0] 61)
  have hb0 := heap_alloc_new w (.cells #[zi 0, zi 0] 61)
  obtain ⟨hh, hg⟩ := p.lt
  refine Exists.intro (some ⟨g, 0, none⟩) (And.intro (cellB (n0.blk p.blk) rfl) ?_)
  refine call_ (get_ok h g A c bs s false 1 w1 (w.alloc (.cells #[zi 0, zi 0] 61)) (p.new n0)) ?_
  rintro e w1 ⟨kk, s1, rfl, rd1, _, p1, m1⟩
  refine ⟨_, rfl, ?_⟩
  have m1z := m1.size
  have n0z := n0.size
  have z0 : (w.alloc (.cells #[zi 0, zi 0] 61)).heap.size = w.heap.size + 1 := by simp
  have hb1 := m1.blk hb0 (by rintro (e | e) <;> omega)
  refine And.intro rfl ?_
  refine storeNew (vs := [zi kk, zi 0]) (arr := #[zi 0, zi 0]) rfl (valOk.one (w := w1) (S := fun _ => False) (x := ⟨kk, 0⟩) rfl) ?_
  intro w2 hb2 n2 s2
  obtain ⟨x, hx⟩ : ∃ x, x = w1.heap.size := ⟨_, rfl⟩
  rw [← hx] at hb2 s2 ⊢
  refine call_ (number_ok h g A c bs s1 w2 (p1.new n2)) ?_
  rintro e w3 ⟨q, s3, rfl, rd3, p3, m3⟩
  refine ⟨_, rfl, ?_⟩
  have hb3 := m3.blk hb2 (by rintro (e | e) <;> omega)
  have hr3 := m3.blk (n2.blk hb1) (by rintro (e | e) <;> omega)
  refine And.intro ⟨_, cellB hb3 rfl⟩ (And.intro (fzB hb3 _) (force_ ?_))
  refine stK hb3 (show (1 : Nat) < 2 by decide) ?_
  intro w4 hb4 m4 s4
  refine loadN_row (vs := [zi kk, zi q]) (rowB hb4) rfl ?_
  refine And.intro rfl ?_
  have hr4 := m4.blk hr3 (by omega)
  refine storeN_all (vs := [zi kk, zi q]) hr4 rfl (valOk.one (w := w1) (S := fun _ => False) (x := ⟨kk, q⟩) rfl) ?_
  intro w5 hb5 m5 s5
  refine loadN_row (vs := [zi kk, zi q]) (rowB hb5) rfl ?_
  refine ⟨[zi kk, zi q], ⟨kk, q⟩, s3, rfl, rfl, reads_val rd1 rd3, p.loc (p.loc p3 m4 (by omega)) m5 (Nat.le_refl _), ?_⟩
  exact Mod.trans (Mod.trans (both (both (both n0.mod m1) n2.mod) m3) m4 fun b hb e => by omega) m5 fun b hb e => by omega

theorem members_int (h g : Nat) (A : Option Addr) (c : Nat) (bs : List UInt8) (s : RSt) (w : World) (p : Ir w h g A c bs s) (hm : bs.length ≤ 1000000000) :
    Calls Try.prog 39 #[.pointer (some ⟨h, 0, none⟩), .func (.func 38) #[.pointer (some ⟨h, 0, none⟩)] #[]] w fun e w' => ∃ v xs s', e = .returned v ∧ LRep intR w' (fun b => b < w.heap.size) v xs ∧ Reads bs (list 4 w4 n8) s xs s' ∧ Ir w' h g A c bs s' ∧ Mod (RS h g) w w' := by
  refine enter ok Try.func39 rfl rfl rfl ?_
  obtain ⟨hh, hg⟩ := p.lt
  refine seq_assign ?_
  refine seq_assign ?_
  refine seq_cut (σ := (Option Addr × Nat) × List (List Value × Int)) (fun t => [(5, .slice t.1.1 t.2.length t.1.2)]) (fun t w' => ∃ s', LRep intR w' (fun b => b < w.heap.size) (.slice t.1.1 t.2.length t.1.2) (t.2.map (·.2)) ∧ Reads bs (list 4 w4 n8) s (t.2.map (·.2)) s' ∧ Ir w' h g A c bs s' ∧ Mod (RS h g) w w') ?_ ?_
  · rintro t w1 fr1 ⟨s', h1, h2, h3, h4⟩
    exact ⟨_, _, s', rfl, h1, h2, h3, h4⟩
  intro K hK
  refine seq_cut (σ := Int) (fun n => [(0, .pointer (some ⟨h, 0, none⟩)), (1, .func (.func 38) #[.pointer (some ⟨h, 0, none⟩)] #[]), (5, .slice none 0 0), (6, zi n)]) (fun n w' => ∃ s1, Reads bs (num 4 false w4) s n s1 ∧ n ≤ 4294967295 ∧ Ir w' h g A c bs s1 ∧ Mod (RS h g) w w') ?_ ?_
  rotate_left
  · intro K2 hK2
    refine Exists.intro (some ⟨g, 0, none⟩) (And.intro (cellB p.blk rfl) ?_)
    refine call_ (get_ok h g A c bs s false 4 w4 w p) ?_
    rintro e w1 ⟨n, s1, rfl, rd1, hb, p1, m1⟩
    refine ⟨_, rfl, ?_⟩
    exact hK2 n _ _ ⟨rfl, rfl, rfl, rfl, trivial⟩ ⟨s1, rd1, (hb (.inr (.inr rfl))).2, p1, m1⟩
  rintro n w1 fr1 ⟨s1, rd1, hn, p1, m1⟩
  refine den_loop (σ := ((Option Addr × Nat) × List (List Value × Int)) × Int × RSt) (fun t => [(0, .pointer (some ⟨h, 0, none⟩)), (1, .func (.func 38) #[.pointer (some ⟨h, 0, none⟩)] #[]), (5, .slice t.1.1.1 t.1.2.length t.1.1.2), (6, zi t.2.1)])
    (fun m t wl => m = t.2.1.toNat ∧ LInv bs n8 s (t.1.2.map (·.2)) t.2.1.toNat t.2.2 ∧ t.2.1.toNat + t.1.2.length ≤ 4294967296 ∧ t.2.1 ≤ 4294967295 ∧ Ir wl h g A c bs t.2.2 ∧ Mod (RS h g) w wl ∧ wl.ownsRow w.heap.size 3 1 (.slice t.1.1.1 t.1.2.length t.1.1.2) t.1.2.length (cellsOf t.1.2) ∧
      ∀ y ∈ t.1.2, intR wl (fun b => b < w.heap.size ∨ some b = (Value.slice t.1.1.1 t.1.2.length t.1.1.2).ownBlock) y.1 y.2) n.toNat (((none, 0), []), n, s1)
    ⟨rfl, rfl, rfl, rfl, trivial⟩ ⟨rfl, LInv.start rd1, by simp; omega, hn, p1, m1, ⟨rfl, .inl ⟨rfl, rfl⟩⟩, fun _ h => (by cases h)⟩ ?_
  rintro m ⟨⟨⟨Al, cl⟩, ts⟩, q, s2⟩ wl frl ⟨rfl, hinv, hcnt, hq, pl, kl, own, hts⟩
  dsimp only at hinv hcnt hq pl own hts
  have hown := fun b (e : (Value.slice Al ts.length cl).ownBlock = some b) => own.lt b e
  have klz := kl.size
  have fin : (s2.2 = false → q.toNat = 0) → ∃ s', LRep intR wl (fun b => b < w.heap.size) (.slice Al ts.length cl) (ts.map (·.2)) ∧ Reads bs (list 4 w4 n8) s (ts.map (·.2)) s' ∧ Ir wl h g A c bs s' ∧ Mod (RS h g) w wl := fun hz => by
    obtain ⟨A', c', e', h5, h6, row, ho⟩ := own_slice own
    cases e'
    exact ⟨s2, ⟨Al, cl, ts, by rw [List.length_map], rfl, by rw [List.length_map]; exact h5, h6, by rw [List.length_map]; omega, row, fun a ha _ => ⟨(ho a ha).2.1, by have := (ho a ha).1; omega⟩, fun t ht => intOk.weak (hts t ht) fun b _ hb => .inl hb⟩, hinv.done hz, pl, kl⟩
  refine if_p (fun hlt => ?_) (fun hge => ?_)
  · replace hlt : 0 < q := hlt
    refine Exists.intro s2.2 (And.intro (cellB pl.blk rfl) ?_)
    refine if_ (fun hz => ?_) (fun hz => ?_)
    · replace hz : s2.2 = false := by simpa using hz
      obtain ⟨k, hk⟩ : ∃ k, q.toNat = k + 1 := ⟨q.toNat - 1, by omega⟩
      rw [hk] at hinv
      have hk' : (q - 1).toNat = k := by omega
      refine call_ (numberM h g A c bs s2 wl pl) ?_
      rintro e w5 ⟨cs, x, s5, he, hx, rd5, p5, m5⟩
      subst he
      have hx0 := hx
      obtain rfl := hx
      refine ⟨_, rfl, ?_⟩
      have m5z := m5.size
      have hnR : ∀ b, w.heap.size ≤ b → ¬ RS h g b := fun b hb e => by rcases e with e | e <;> omega
      have own5 := own_mod m5 own (fun b hb => hnR b (hown b hb).1)
      have n6 := New.alloc w5 (.cells [zi x].toArray 3)
      refine append2_ ok rfl rfl rfl rfl (own_new n6 own5) rfl rfl (row_alloc w5 [zi x] _ _) rfl (intOk.one hx0) (by decide) rfl (by show (ts.length + 1) * 8 ≤ _; omega) (by omega) (Nat.le_trans (by omega) n6.size) ?_
      intro A7 c7 w7 own7 mod7 st7
      have k57 : Mod (fun b => some b = (Value.slice Al ts.length cl).ownBlock) w5 w7 := Mod.trans n6.mod mod7 fun _ _ e => e
      have hl : (ts ++ [([zi x], x)]).length = ts.length + 1 := by simp
      have st : ∀ b, some b = (Value.slice A7 (ts.length + 1) c7).ownBlock → some b = (Value.slice Al ts.length cl).ownBlock ∨ w5.heap.size ≤ b := fun b e => by
        rcases st7 b e.symm with e | e
        · exact .inl e.symm
        · exact .inr (Nat.le_trans n6.size e)
      have hnew := mem_step intOk hts hx0 m5 k57 hh hg klz (fun b e => hown b e.symm) st
      have pow := p5.modN k57 (fun e => by have := hown _ e.symm; omega) (fun e => by have := hown _ e.symm; omega) (fun a ha hn e => by have := p.low a ha hn; have := hown _ e.symm; omega)
      refine ⟨(q - 1).toNat, (((A7, c7), ts ++ [([zi x], x)]), q - 1, s5), (by dsimp only; omega), ⟨rfl, rfl, (show Value.slice A7 (ts.length + 1) c7 = .slice A7 (ts ++ [([zi x], x)]).length c7 by rw [hl]), (show zi (IntKind.i64.wrap (q - 1)) = zi (q - 1) by rw [wrap_i64 (by omega) (by omega)]), trivial⟩, rfl, ?_, ?_, by dsimp only; omega, pow, ?_, ?_, ?_⟩
      · dsimp only
        rw [hk', List.map_append]
        exact hinv.step hz rd5
      · dsimp only
        rw [hl]
        omega
      · exact Mod.trans (both kl m5) k57 fun b hb e => by have := hown b e.symm; omega
      · dsimp only
        rw [hl, cellsOf_snoc]
        exact own7
      · dsimp only
        rw [hl]
        exact hnew
    · replace hz : s2.2 = true := by simpa using hz
      exact hK ((Al, cl), ts) _ _ ⟨rfl, trivial⟩ (fin fun h => by rw [hz] at h; cases h)
  · replace hge : ¬ 0 < q := hge
    exact hK ((Al, cl), ts) _ _ ⟨rfl, trivial⟩ (fin fun _ => by omega)
theorem members_val (h g : Nat) (A : Option Addr) (c : Nat) (bs : List UInt8) (s : RSt) (w : World) (p : Ir w h g A c bs s) (hm : bs.length ≤ 1000000000) :
    Calls Try.prog 40 #[.pointer (some ⟨h, 0, none⟩), .func (.func 41) #[.pointer (some ⟨h, 0, none⟩)] #[]] w fun e w' => ∃ v xs s', e = .returned v ∧ LRep valR w' (fun b => b < w.heap.size) v xs ∧ Reads bs (list 4 w4 valF) s xs s' ∧ Ir w' h g A c bs s' ∧ Mod (RS h g) w w' := by
  refine enter ok Try.func40 rfl rfl rfl ?_
  obtain ⟨hh, hg⟩ := p.lt
  refine seq_assign ?_
  refine seq_assign ?_
  refine seq_cut (σ := (Option Addr × Nat) × List (List Value × Val)) (fun t => [(5, .slice t.1.1 t.2.length t.1.2)]) (fun t w' => ∃ s', LRep valR w' (fun b => b < w.heap.size) (.slice t.1.1 t.2.length t.1.2) (t.2.map (·.2)) ∧ Reads bs (list 4 w4 valF) s (t.2.map (·.2)) s' ∧ Ir w' h g A c bs s' ∧ Mod (RS h g) w w') ?_ ?_
  · rintro t w1 fr1 ⟨s', h1, h2, h3, h4⟩
    exact ⟨_, _, s', rfl, h1, h2, h3, h4⟩
  intro K hK
  refine seq_cut (σ := Int) (fun n => [(0, .pointer (some ⟨h, 0, none⟩)), (1, .func (.func 41) #[.pointer (some ⟨h, 0, none⟩)] #[]), (5, .slice none 0 0), (6, zi n)]) (fun n w' => ∃ s1, Reads bs (num 4 false w4) s n s1 ∧ n ≤ 4294967295 ∧ Ir w' h g A c bs s1 ∧ Mod (RS h g) w w') ?_ ?_
  rotate_left
  · intro K2 hK2
    refine Exists.intro (some ⟨g, 0, none⟩) (And.intro (cellB p.blk rfl) ?_)
    refine call_ (get_ok h g A c bs s false 4 w4 w p) ?_
    rintro e w1 ⟨n, s1, rfl, rd1, hb, p1, m1⟩
    refine ⟨_, rfl, ?_⟩
    exact hK2 n _ _ ⟨rfl, rfl, rfl, rfl, trivial⟩ ⟨s1, rd1, (hb (.inr (.inr rfl))).2, p1, m1⟩
  rintro n w1 fr1 ⟨s1, rd1, hn, p1, m1⟩
  refine den_loop (σ := ((Option Addr × Nat) × List (List Value × Val)) × Int × RSt) (fun t => [(0, .pointer (some ⟨h, 0, none⟩)), (1, .func (.func 41) #[.pointer (some ⟨h, 0, none⟩)] #[]), (5, .slice t.1.1.1 t.1.2.length t.1.1.2), (6, zi t.2.1)])
    (fun m t wl => m = t.2.1.toNat ∧ LInv bs valF s (t.1.2.map (·.2)) t.2.1.toNat t.2.2 ∧ t.2.1.toNat + t.1.2.length ≤ 4294967296 ∧ t.2.1 ≤ 4294967295 ∧ Ir wl h g A c bs t.2.2 ∧ Mod (RS h g) w wl ∧ wl.ownsRow w.heap.size 61 2 (.slice t.1.1.1 t.1.2.length t.1.1.2) t.1.2.length (cellsOf t.1.2) ∧
      ∀ y ∈ t.1.2, valR wl (fun b => b < w.heap.size ∨ some b = (Value.slice t.1.1.1 t.1.2.length t.1.1.2).ownBlock) y.1 y.2) n.toNat (((none, 0), []), n, s1)
    ⟨rfl, rfl, rfl, rfl, trivial⟩ ⟨rfl, LInv.start rd1, by simp; omega, hn, p1, m1, ⟨rfl, .inl ⟨rfl, rfl⟩⟩, fun _ h => (by cases h)⟩ ?_
  rintro m ⟨⟨⟨Al, cl⟩, ts⟩, q, s2⟩ wl frl ⟨rfl, hinv, hcnt, hq, pl, kl, own, hts⟩
  dsimp only at hinv hcnt hq pl own hts
  have hown := fun b (e : (Value.slice Al ts.length cl).ownBlock = some b) => own.lt b e
  have klz := kl.size
  have fin : (s2.2 = false → q.toNat = 0) → ∃ s', LRep valR wl (fun b => b < w.heap.size) (.slice Al ts.length cl) (ts.map (·.2)) ∧ Reads bs (list 4 w4 valF) s (ts.map (·.2)) s' ∧ Ir wl h g A c bs s' ∧ Mod (RS h g) w wl := fun hz => by
    obtain ⟨A', c', e', h5, h6, row, ho⟩ := own_slice own
    cases e'
    exact ⟨s2, ⟨Al, cl, ts, by rw [List.length_map], rfl, by rw [List.length_map]; exact h5, h6, by rw [List.length_map]; omega, row, fun a ha _ => ⟨(ho a ha).2.1, by have := (ho a ha).1; omega⟩, fun t ht => valOk.weak (hts t ht) fun b _ hb => .inl hb⟩, hinv.done hz, pl, kl⟩
  refine if_p (fun hlt => ?_) (fun hge => ?_)
  · replace hlt : 0 < q := hlt
    refine Exists.intro s2.2 (And.intro (cellB pl.blk rfl) ?_)
    refine if_ (fun hz => ?_) (fun hz => ?_)
    · replace hz : s2.2 = false := by simpa using hz
      obtain ⟨k, hk⟩ : ∃ k, q.toNat = k + 1 := ⟨q.toNat - 1, by omega⟩
      rw [hk] at hinv
      have hk' : (q - 1).toNat = k := by omega
      refine call_ (value_ok h g A c bs s2 wl pl) ?_
      rintro e w5 ⟨cs, x, s5, he, hx, rd5, p5, m5⟩
      subst he
      have hx0 := hx
      obtain rfl := hx
      refine ⟨_, rfl, ?_⟩
      have m5z := m5.size
      have hnR : ∀ b, w.heap.size ≤ b → ¬ RS h g b := fun b hb e => by rcases e with e | e <;> omega
      have own5 := own_mod m5 own (fun b hb => hnR b (hown b hb).1)
      have n6 := New.alloc w5 (.cells [zi x.kind, zi x.n].toArray 61)
      refine append2_ ok rfl rfl rfl rfl (own_new n6 own5) rfl rfl (row_alloc w5 [zi x.kind, zi x.n] _ _) rfl (valOk.one hx0) (by decide) rfl (by show (ts.length + 1) * 16 ≤ _; omega) (by omega) (Nat.le_trans (by omega) n6.size) ?_
      intro A7 c7 w7 own7 mod7 st7
      have k57 : Mod (fun b => some b = (Value.slice Al ts.length cl).ownBlock) w5 w7 := Mod.trans n6.mod mod7 fun _ _ e => e
      have hl : (ts ++ [([zi x.kind, zi x.n], x)]).length = ts.length + 1 := by simp
      have st : ∀ b, some b = (Value.slice A7 (ts.length + 1) c7).ownBlock → some b = (Value.slice Al ts.length cl).ownBlock ∨ w5.heap.size ≤ b := fun b e => by
        rcases st7 b e.symm with e | e
        · exact .inl e.symm
        · exact .inr (Nat.le_trans n6.size e)
      have hnew := mem_step valOk hts hx0 m5 k57 hh hg klz (fun b e => hown b e.symm) st
      have pow := p5.modN k57 (fun e => by have := hown _ e.symm; omega) (fun e => by have := hown _ e.symm; omega) (fun a ha hn e => by have := p.low a ha hn; have := hown _ e.symm; omega)
      refine ⟨(q - 1).toNat, (((A7, c7), ts ++ [([zi x.kind, zi x.n], x)]), q - 1, s5), (by dsimp only; omega), ⟨rfl, rfl, (show Value.slice A7 (ts.length + 1) c7 = .slice A7 (ts ++ [([zi x.kind, zi x.n], x)]).length c7 by rw [hl]), (show zi (IntKind.i64.wrap (q - 1)) = zi (q - 1) by rw [wrap_i64 (by omega) (by omega)]), trivial⟩, rfl, ?_, ?_, by dsimp only; omega, pow, ?_, ?_, ?_⟩
      · dsimp only
        rw [hk', List.map_append]
        exact hinv.step hz rd5
      · dsimp only
        rw [hl]
        omega
      · exact Mod.trans (both kl m5) k57 fun b hb e => by have := hown b e.symm; omega
      · dsimp only
        rw [hl, cellsOf_snoc]
        exact own7
      · dsimp only
        rw [hl]
        exact hnew
    · replace hz : s2.2 = true := by simpa using hz
      exact hK ((Al, cl), ts) _ _ ⟨rfl, trivial⟩ (fin fun h => by rw [hz] at h; cases h)
  · replace hge : ¬ 0 < q := hge
    exact hK ((Al, cl), ts) _ _ ⟨rfl, trivial⟩ (fin fun _ => by omega)
end Go.Proofs.Yteanhakkceancaa.Image

/- The package image, walked: objects, calls, threads, monitors, and lists of them. Printed by genread.py. -/
import Derived.Test.YteanhakkceancaaIWalk1
namespace Go.Proofs.Yteanhakkceancaa.Image
open Go Go.Proofs.Yteanhakkceancaa Go.Proofs.Yteanhakkceancaa.Eng Go.Proofs Go.Proofs.Yteanhakkceancaa.Word Go.Proofs.Yteanhakkceancaa.Fmt
open Go.Proofs.Yteanhakkceancaa.Pool (rd_modN rd_low RS both own_low)
set_option maxRecDepth 10000

theorem object_ok (h g : Nat) (A : Option Addr) (c : Nat) (bs : List UInt8) (s : RSt) (w : World) (p : Ir w h g A c bs s) (hm : bs.length ≤ 1000000000) :
    Calls Try.prog 43 #[.pointer (some ⟨h, 0, none⟩)] w fun e w' => ∃ cs x s', e = .returned (.agg cs.toArray) ∧ objR w' (fun b => b < w.heap.size) cs x ∧ Reads bs objF s x s' ∧ Ir w' h g A c bs s' ∧ Mod (RS h g) w w' := by
  refine enter ok Try.func43 rfl rfl rfl ?_
  obtain ⟨hh, hg⟩ := p.lt
  have nR : ∀ b, w.heap.size ≤ b → ¬ RS h g b := fun b hb e => by rcases e with e | e <;> omega
  refine seq_cut (σ := Unit) (fun _ => [(0, .pointer (some ⟨h, 0, none⟩)), (2, .pointer (some ⟨w.heap.size, 0, none⟩))]) (fun _ w' => New w w' ∧ w.heap.size + 1 ≤ w'.heap.size ∧ w'.heap[w.heap.size]? = some (.cells #[.string ⟨#[]⟩, .slice none 0 0] 45 (0, 0))) ?_ ?_
  rotate_left
  · intro K hK
    have z0 : w.heap.size + 1 ≤ (w.alloc (.cells #[.string ⟨#[]⟩, .slice none 0 0] 45)).heap.size := by simp
    exact hK () _ _ ⟨rfl, rfl, trivial⟩ ⟨New.alloc w _, z0, heap_alloc_new w (.cells #[.string ⟨#[]⟩, .slice none 0 0] 45)⟩
  rintro _ w1 fr1 ⟨n1, z1, hZ1⟩
  refine seq_cut (σ := Int) (fun n => [(0, .pointer (some ⟨h, 0, none⟩)), (2, .pointer (some ⟨w.heap.size, 0, none⟩)), (3, zi n)]) (fun n w' => ∃ s1, Reads bs (num 2 false w2) s n s1 ∧ Ir w' h g A c bs s1 ∧ Mod (RS h g) w w' ∧ w.heap.size + 1 ≤ w'.heap.size ∧ w'.heap[w.heap.size]? = some (.cells #[.string ⟨#[]⟩, .slice none 0 0] 45 (0, 0))) ?_ ?_
  rotate_left
  · intro K hK
    refine Exists.intro (some ⟨g, 0, none⟩) (And.intro (cellB (n1.blk p.blk) rfl) ?_)
    refine call_ (get_ok h g A c bs s false 2 Image.w2 w1 (p.new n1)) ?_
    rintro e w2 ⟨n, s1, rfl, rd1, _, p1, m1⟩
    refine ⟨_, rfl, ?_⟩
    have m1z := m1.size
    exact hK n _ _ ⟨rfl, rfl, rfl, trivial⟩ ⟨s1, rd1, p1, both n1.mod m1, by omega, m1.blk hZ1 (nR _ (Nat.le_refl _))⟩
  rintro n w2 fr2 ⟨s1, rd1, p2, k2, z2, hZ2⟩
  refine seq_cut (σ := Unit) (fun _ => [(0, .pointer (some ⟨h, 0, none⟩)), (2, .pointer (some ⟨w.heap.size, 0, none⟩)), (3, zi n)]) (fun _ w' => Ir w' h g A c bs (s1.1, s1.2 || decide (255 < n)) ∧ Mod (RS h g) w w' ∧ w.heap.size + 1 ≤ w'.heap.size ∧ w'.heap[w.heap.size]? = some (.cells #[.string ⟨#[]⟩, .slice none 0 0] 45 (0, 0))) ?_ ?_
  rotate_left
  · intro K hK
    have hb2 := p2.blk
    refine Exists.intro s1.2 (And.intro (cellB hb2 rfl) ?_)
    refine if_ (fun hz => ?_) (fun hz => ?_)
    · refine And.intro ⟨_, cellB hb2 rfl⟩ (And.intro (fzB hb2 _) (force_ ?_))
      refine stK hb2 (show (1 : Nat) < 2 by decide) ?_
      intro w3 hb3 m3 s3
      refine hK () _ _ ⟨rfl, rfl, rfl, trivial⟩ ⟨?_, both k2 (m3.mono fun _ _ e => .inr e), by omega, m3.blk hZ2 (by omega)⟩
      rw [hz, Bool.true_or]
      exact p2.set m3 hb3
    · refine And.intro ⟨_, cellB hb2 rfl⟩ (And.intro (fzB hb2 _) (force_ ?_))
      refine stK hb2 (show (1 : Nat) < 2 by decide) ?_
      intro w3 hb3 m3 s3
      refine hK () _ _ ⟨rfl, rfl, rfl, trivial⟩ ⟨?_, both k2 (m3.mono fun _ _ e => .inr e), by omega, m3.blk hZ2 (by omega)⟩
      rw [hz, Bool.false_or]
      exact p2.set m3 hb3
  rintro _ w3 fr3 ⟨p3, k3, z3, hZ3⟩
  obtain ⟨bad, hbad⟩ : ∃ bad, bad = (s1.2 || decide (255 < n)) := ⟨_, rfl⟩
  rw [← hbad] at p3
  refine seq_cut (σ := Unit) (fun _ => [(0, .pointer (some ⟨h, 0, none⟩)), (2, .pointer (some ⟨w.heap.size, 0, none⟩)), (3, zi n)]) (fun _ w' => w' = w3 ∧ bad = false) ?_ ?_
  rotate_left
  · intro K hK
    refine Exists.intro bad (And.intro (cellB p3.blk rfl) ?_)
    refine if_ (fun hz => ?_) (fun hz => ?_)
    · subst hz
      have hb : s1.2 = true ∨ 255 < n := by simpa using hbad.symm
      refine And.intro rfl ?_
      refine storeN_all (vs := [.string ⟨#[]⟩, .slice none 0 0]) hZ3 rfl (objOk.one (w := w3) (S := fun _ => False) (x := ⟨[], []⟩) ⟨_, rfl, LRep.nil _ _ _ trivial⟩) ?_
      intro w4 hb4 m4 s4
      refine loadN_row (vs := [.string ⟨#[]⟩, .slice none 0 0]) (rowB hb4) rfl ?_
      have p4 := p.loc p3 m4 (Nat.le_refl _)
      exact ⟨[.string ⟨#[]⟩, .slice none 0 0], ⟨[], []⟩, (s1.1, true), rfl, ⟨_, rfl, LRep.nil _ _ _ trivial⟩, reads_obj (ty_bad rd1 hb) (Reads.bad rfl p4.rd.at_ _), p4, Mod.trans k3 m4 fun b hb e => by omega⟩
    · exact hK () _ _ ⟨rfl, rfl, rfl, trivial⟩ ⟨rfl, hz⟩
  rintro _ w4 fr4 ⟨hw4, hb⟩
  obtain rfl := hw4.symm
  rw [hb] at p3 hbad
  have hbad := hbad.symm
  rw [Bool.or_eq_false_iff, decide_eq_false_iff_not] at hbad
  have hs0 : s.2 = false := by
    cases hs : s.2 with
    | false => rfl
    | true => rw [rd1.stays hs] at hbad; cases hbad.1
  have rty := ty_read rd1 hbad.1 (by omega) hs0
  -- the bytes
  refine seq_cut (σ := Option Addr × Nat) (fun t => [(0, .pointer (some ⟨h, 0, none⟩)), (2, .pointer (some ⟨w.heap.size, 0, none⟩)), (4, .slice t.1 (getB bs s1.1 n).1.length t.2), (5, zi (getB bs s1.1 n).2.1)]) (fun t w' => Row w' t.1 (bvs (getB bs s1.1 n).1) ∧ (∀ a, t.1 = some a → w.heap.size + 1 ≤ a.block) ∧ Ir w' h g A c bs ((getB bs s1.1 n).2.2, false) ∧ Mod (RS h g) w w' ∧ w.heap.size + 1 ≤ w'.heap.size ∧ w'.heap[w.heap.size]? = some (.cells #[.string ⟨#[]⟩, .slice none 0 0] 45 (0, 0))) ?_ ?_
  rotate_left
  · intro K hK
    refine Exists.intro (some ⟨g, 0, none⟩) (And.intro (cellB p3.blk rfl) ?_)
    refine call_ (RBytes_ok g A c bs s1.1 n w3 p3.rd (by omega)) ?_
    rintro e w5 ⟨v5, rfl, own5, rd5, m5⟩
    obtain ⟨A5, c5, rfl, _, _, row5, ho5⟩ := own_slice own5
    refine ⟨_, rfl, ?_⟩
    have m5z := m5.size
    exact hK (A5, c5) _ _ ⟨rfl, rfl, rfl, rfl, trivial⟩ ⟨row5, fun a ha => by have := (ho5 a ha).1; omega, ⟨m5.blk p3.blk p3.ne, rd5, p3.ne, p3.off⟩, both k3 (m5.mono fun _ _ e => .inl e), by omega, m5.blk hZ3 (by omega)⟩
  rintro ⟨A5, c5⟩ w5 fr5 ⟨row5, ho5, p5, k5, z5, hZ5⟩
  dsimp only at row5 ho5
  generalize getB bs s1.1 n = gb at row5 p5 rty ⊢
  refine seq_cut (σ := Unit) (fun _ => [(0, .pointer (some ⟨h, 0, none⟩)), (2, .pointer (some ⟨w.heap.size, 0, none⟩)), (4, .slice A5 gb.1.length c5)]) (fun _ w' => Row w' A5 (bvs gb.1) ∧ Ir w' h g A c bs (gb.2.2, !decide (gb.2.1 = 0)) ∧ Mod (RS h g) w w' ∧ w.heap.size + 1 ≤ w'.heap.size ∧ w'.heap[w.heap.size]? = some (.cells #[.string ⟨#[]⟩, .slice none 0 0] 45 (0, 0))) ?_ ?_
  rotate_left
  · intro K hK
    have hb5 := p5.blk
    refine And.intro ⟨_, cellB hb5 rfl⟩ (And.intro (fzB hb5 _) (force_ ?_))
    refine stK hb5 (show (1 : Nat) < 2 by decide) ?_
    intro w6 hb6 m6 s6
    exact hK () _ _ ⟨rfl, rfl, rfl, trivial⟩ ⟨row5.mod m6 (fun a ha e => by have := ho5 a ha; omega), p5.set m6 hb6, both k5 (m6.mono fun _ _ e => .inr e), by omega, m6.blk hZ5 (by omega)⟩
  rintro _ w6 fr6 ⟨row6, p6, k6, z6, hZ6⟩
  refine draw_ (w := w6) ok (.q 0 (.q 1 (.q 2 (.q 3 (.q 4 (.e 5 (.q 6 (.e 7 .done)))))))) [7] (fun w'' => Row w'' A5 (bvs gb.1)) (by kernel_rfl) (by kernel_rfl) (by kernel_rfl) (by kernel_rfl) (by kernel_rfl) (row6.new (New.drew _)) ?_
  refine Exists.intro gb.1 (And.intro rfl (And.intro (fun _ hw => hw) ?_))
  refine call_ (members_val h g A c bs _ w6.drew (p6.new (New.drew _)) hm) ?_
  rintro e w7 ⟨v, xs, s7, rfl, hv, rd7, p7, m7⟩
  have hv0 := hv
  obtain ⟨A7, c7, ts7, rfl, _⟩ := hv
  refine ⟨_, rfl, ?_⟩
  have zd : w6.drew.heap.size = w6.heap.size := rfl
  have m7z := m7.size
  refine Exists.intro (fun w'' => Row w'' A5 (bvs gb.1)) (And.intro (fun _ h => h) (And.intro ((row6.new (New.drew _)).mod m7 (fun a ha e => by have := ho5 a ha; rcases e with e | e <;> omega)) ?_))
  refine And.intro rfl ?_
  refine storeN_all (vs := [.string ⟨gb.1.toArray⟩, .slice A7 xs.length c7]) (m7.blk ((New.drew w6).blk hZ6) (nR _ (Nat.le_refl _))) rfl (objOk.one (w := w7) (S := fun b => b < w6.drew.heap.size) (x := ⟨gb.1, xs⟩) ⟨_, rfl, hv0⟩) ?_
  intro w8 hb8 m8 s8
  refine loadN_row (vs := [.string ⟨gb.1.toArray⟩, .slice A7 xs.length c7]) (rowB hb8) rfl ?_
  refine ⟨[.string ⟨gb.1.toArray⟩, .slice A7 xs.length c7], ⟨gb.1, xs⟩, s7, rfl, ⟨_, rfl, ?_⟩, reads_obj rty rd7, p.loc p7 m8 (Nat.le_refl _), Mod.trans (both (both k6 (New.drew w6).mod) m7) m8 fun b hb e => by omega⟩
  exact LRep.weak valOk (LRep.mod valOk (by decide) (LRep.weak valOk (S' := fun b => b < w.heap.size + 1) hv0 fun b hb e => by omega) (m8.mono fun b hb e => by omega)) fun b hb e => by omega

theorem members_obj (h g : Nat) (A : Option Addr) (c : Nat) (bs : List UInt8) (s : RSt) (w : World) (p : Ir w h g A c bs s) (hm : bs.length ≤ 1000000000) :
    Calls Try.prog 42 #[.pointer (some ⟨h, 0, none⟩), .func (.func 43) #[.pointer (some ⟨h, 0, none⟩)] #[]] w fun e w' => ∃ v xs s', e = .returned v ∧ LRep objR w' (fun b => b < w.heap.size) v xs ∧ Reads bs (list 4 w4 objF) s xs s' ∧ Ir w' h g A c bs s' ∧ Mod (RS h g) w w' := by
  refine enter ok Try.func42 rfl rfl rfl ?_
  obtain ⟨hh, hg⟩ := p.lt
  refine seq_assign ?_
  refine seq_assign ?_
  refine seq_cut (σ := (Option Addr × Nat) × List (List Value × Obj)) (fun t => [(5, .slice t.1.1 t.2.length t.1.2)]) (fun t w' => ∃ s', LRep objR w' (fun b => b < w.heap.size) (.slice t.1.1 t.2.length t.1.2) (t.2.map (·.2)) ∧ Reads bs (list 4 w4 objF) s (t.2.map (·.2)) s' ∧ Ir w' h g A c bs s' ∧ Mod (RS h g) w w') ?_ ?_
  · rintro t w1 fr1 ⟨s', h1, h2, h3, h4⟩
    exact ⟨_, _, s', rfl, h1, h2, h3, h4⟩
  intro K hK
  refine seq_cut (σ := Int) (fun n => [(0, .pointer (some ⟨h, 0, none⟩)), (1, .func (.func 43) #[.pointer (some ⟨h, 0, none⟩)] #[]), (5, .slice none 0 0), (6, zi n)]) (fun n w' => ∃ s1, Reads bs (num 4 false w4) s n s1 ∧ n ≤ 4294967295 ∧ Ir w' h g A c bs s1 ∧ Mod (RS h g) w w') ?_ ?_
  rotate_left
  · intro K2 hK2
    refine Exists.intro (some ⟨g, 0, none⟩) (And.intro (cellB p.blk rfl) ?_)
    refine call_ (get_ok h g A c bs s false 4 w4 w p) ?_
    rintro e w1 ⟨n, s1, rfl, rd1, hb, p1, m1⟩
    refine ⟨_, rfl, ?_⟩
    exact hK2 n _ _ ⟨rfl, rfl, rfl, rfl, trivial⟩ ⟨s1, rd1, (hb (.inr (.inr rfl))).2, p1, m1⟩
  rintro n w1 fr1 ⟨s1, rd1, hn, p1, m1⟩
  refine den_loop (σ := ((Option Addr × Nat) × List (List Value × Obj)) × Int × RSt) (fun t => [(0, .pointer (some ⟨h, 0, none⟩)), (1, .func (.func 43) #[.pointer (some ⟨h, 0, none⟩)] #[]), (5, .slice t.1.1.1 t.1.2.length t.1.1.2), (6, zi t.2.1)])
    (fun m t wl => m = t.2.1.toNat ∧ LInv bs objF s (t.1.2.map (·.2)) t.2.1.toNat t.2.2 ∧ t.2.1.toNat + t.1.2.length ≤ 4294967296 ∧ t.2.1 ≤ 4294967295 ∧ Ir wl h g A c bs t.2.2 ∧ Mod (RS h g) w wl ∧ wl.ownsRow w.heap.size 45 2 (.slice t.1.1.1 t.1.2.length t.1.1.2) t.1.2.length (cellsOf t.1.2) ∧
      ∀ y ∈ t.1.2, objR wl (fun b => b < w.heap.size ∨ some b = (Value.slice t.1.1.1 t.1.2.length t.1.1.2).ownBlock) y.1 y.2) n.toNat (((none, 0), []), n, s1)
    ⟨rfl, rfl, rfl, rfl, trivial⟩ ⟨rfl, LInv.start rd1, by simp; omega, hn, p1, m1, ⟨rfl, .inl ⟨rfl, rfl⟩⟩, fun _ h => (by cases h)⟩ ?_
  rintro m ⟨⟨⟨Al, cl⟩, ts⟩, q, s2⟩ wl frl ⟨rfl, hinv, hcnt, hq, pl, kl, own, hts⟩
  dsimp only at hinv hcnt hq pl own hts
  have hown := fun b (e : (Value.slice Al ts.length cl).ownBlock = some b) => own.lt b e
  have klz := kl.size
  have fin : (s2.2 = false → q.toNat = 0) → ∃ s', LRep objR wl (fun b => b < w.heap.size) (.slice Al ts.length cl) (ts.map (·.2)) ∧ Reads bs (list 4 w4 objF) s (ts.map (·.2)) s' ∧ Ir wl h g A c bs s' ∧ Mod (RS h g) w wl := fun hz => by
    obtain ⟨A', c', e', h5, h6, row, ho⟩ := own_slice own
    cases e'
    exact ⟨s2, ⟨Al, cl, ts, by rw [List.length_map], rfl, by rw [List.length_map]; exact h5, h6, by rw [List.length_map]; omega, row, fun a ha _ => ⟨(ho a ha).2.1, by have := (ho a ha).1; omega⟩, fun t ht => objOk.weak (hts t ht) fun b _ hb => .inl hb⟩, hinv.done hz, pl, kl⟩
  refine if_p (fun hlt => ?_) (fun hge => ?_)
  · replace hlt : 0 < q := hlt
    refine Exists.intro s2.2 (And.intro (cellB pl.blk rfl) ?_)
    refine if_ (fun hz => ?_) (fun hz => ?_)
    · replace hz : s2.2 = false := by simpa using hz
      obtain ⟨k, hk⟩ : ∃ k, q.toNat = k + 1 := ⟨q.toNat - 1, by omega⟩
      rw [hk] at hinv
      have hk' : (q - 1).toNat = k := by omega
      refine call_ (object_ok h g A c bs s2 wl pl hm) ?_
      rintro e w5 ⟨cs, x, s5, he, hx, rd5, p5, m5⟩
      subst he
      have hx0 := hx
      obtain ⟨v, rfl, hv⟩ := hx
      obtain ⟨Av, cv, tv, rfl, _⟩ := hv
      refine ⟨_, rfl, ?_⟩
      have m5z := m5.size
      have hnR : ∀ b, w.heap.size ≤ b → ¬ RS h g b := fun b hb e => by rcases e with e | e <;> omega
      have own5 := own_mod m5 own (fun b hb => hnR b (hown b hb).1)
      have n6 := New.alloc w5 (.cells [Value.string ⟨x.ty.toArray⟩, Value.slice Av x.words.length cv].toArray 45)
      refine append2_ ok rfl rfl rfl rfl (own_new n6 own5) rfl rfl (row_alloc w5 [Value.string ⟨x.ty.toArray⟩, Value.slice Av x.words.length cv] _ _) rfl (objOk.one hx0) (by decide) rfl (by show (ts.length + 1) * 40 ≤ _; omega) (by omega) (Nat.le_trans (by omega) n6.size) ?_
      intro A7 c7 w7 own7 mod7 st7
      have k57 : Mod (fun b => some b = (Value.slice Al ts.length cl).ownBlock) w5 w7 := Mod.trans n6.mod mod7 fun _ _ e => e
      have hl : (ts ++ [([Value.string ⟨x.ty.toArray⟩, Value.slice Av x.words.length cv], x)]).length = ts.length + 1 := by simp
      have st : ∀ b, some b = (Value.slice A7 (ts.length + 1) c7).ownBlock → some b = (Value.slice Al ts.length cl).ownBlock ∨ w5.heap.size ≤ b := fun b e => by
        rcases st7 b e.symm with e | e
        · exact .inl e.symm
        · exact .inr (Nat.le_trans n6.size e)
      have hnew := mem_step objOk hts hx0 m5 k57 hh hg klz (fun b e => hown b e.symm) st
      have pow := p5.modN k57 (fun e => by have := hown _ e.symm; omega) (fun e => by have := hown _ e.symm; omega) (fun a ha hn e => by have := p.low a ha hn; have := hown _ e.symm; omega)
      refine ⟨(q - 1).toNat, (((A7, c7), ts ++ [([Value.string ⟨x.ty.toArray⟩, Value.slice Av x.words.length cv], x)]), q - 1, s5), (by dsimp only; omega), ⟨rfl, rfl, (show Value.slice A7 (ts.length + 1) c7 = .slice A7 (ts ++ [([Value.string ⟨x.ty.toArray⟩, Value.slice Av x.words.length cv], x)]).length c7 by rw [hl]), (show zi (IntKind.i64.wrap (q - 1)) = zi (q - 1) by rw [wrap_i64 (by omega) (by omega)]), trivial⟩, rfl, ?_, ?_, by dsimp only; omega, pow, ?_, ?_, ?_⟩
      · dsimp only
        rw [hk', List.map_append]
        exact hinv.step hz rd5
      · dsimp only
        rw [hl]
        omega
      · exact Mod.trans (both kl m5) k57 fun b hb e => by have := hown b e.symm; omega
      · dsimp only
        rw [hl, cellsOf_snoc]
        exact own7
      · dsimp only
        rw [hl]
        exact hnew
    · replace hz : s2.2 = true := by simpa using hz
      exact hK ((Al, cl), ts) _ _ ⟨rfl, trivial⟩ (fin fun h => by rw [hz] at h; cases h)
  · replace hge : ¬ 0 < q := hge
    exact hK ((Al, cl), ts) _ _ ⟨rfl, trivial⟩ (fin fun _ => by omega)
theorem call_ok (h g : Nat) (A : Option Addr) (c : Nat) (bs : List UInt8) (s : RSt) (w : World) (p : Ir w h g A c bs s) (hm : bs.length ≤ 1000000000) :
    Calls Try.prog 72 #[.pointer (some ⟨h, 0, none⟩)] w fun e w' => ∃ cs x s', e = .returned (.agg cs.toArray) ∧ callR w' (fun b => b < w.heap.size) cs x ∧ Reads bs callF s x s' ∧ Ir w' h g A c bs s' ∧ Mod (RS h g) w w' := by
  refine enter ok Try.func72 rfl rfl rfl ?_
  obtain ⟨hh, hg⟩ := p.lt
  have nR : ∀ b, w.heap.size ≤ b → ¬ RS h g b := fun b hb e => by rcases e with e | e <;> omega
  refine seq_cut (σ := Unit) (fun _ => [(0, .pointer (some ⟨h, 0, none⟩)), (2, .pointer (some ⟨w.heap.size, 0, none⟩))]) (fun _ w' => New w w' ∧ w'.heap.size = w.heap.size + 1 ∧ w'.heap[w.heap.size]? = some (.cells #[zi 0, zi 0, zi 0, (.slice none 0 0), (.slice none 0 0), zi 0] 50 (0, 0))) ?_ ?_
  rotate_left
  · intro K hK
    exact hK () _ _ ⟨rfl, rfl, trivial⟩ ⟨New.alloc w _, by simp, heap_alloc_new w (.cells #[zi 0, zi 0, zi 0, (.slice none 0 0), (.slice none 0 0), zi 0] 50)⟩
  rintro _ w1 fr1 ⟨n1, z1, hZ1⟩
  refine seq_cut (σ := Unit) (fun _ => [(0, .pointer (some ⟨h, 0, none⟩)), (2, .pointer (some ⟨w.heap.size, 0, none⟩)), (3, .pointer (some ⟨w.heap.size + 1, 0, none⟩))]) (fun _ w' => New w w' ∧ w'.heap.size = w.heap.size + 2 ∧ w'.heap[w.heap.size]? = some (.cells #[zi 0, zi 0, zi 0, (.slice none 0 0), (.slice none 0 0), zi 0] 50 (0, 0)) ∧ w'.heap[w.heap.size + 1]? = some (.cells #[zi 0, zi 0, zi 0, (.slice none 0 0), (.slice none 0 0), zi 0] 50 (0, 0))) ?_ ?_
  rotate_left
  · intro K hK
    have n2 := New.alloc w1 (.cells #[zi 0, zi 0, zi 0, (.slice none 0 0), (.slice none 0 0), zi 0] 50)
    have hb2 := heap_alloc_new w1 (.cells #[zi 0, zi 0, zi 0, (.slice none 0 0), (.slice none 0 0), zi 0] 50)
    rw [z1] at hb2
    exact hK () _ _ ⟨rfl, rfl, (show Value.pointer (some ⟨w1.heap.size, 0, none⟩) = _ by rw [z1]), trivial⟩ ⟨n1.trans n2, by simp [z1], n2.blk hZ1, hb2⟩
  rintro _ w2 fr2 ⟨n2, z2, hZ2, hX2⟩
  -- the numbers
  refine seq_cut (σ := Unit) (fun _ => [(0, .pointer (some ⟨h, 0, none⟩)), (2, .pointer (some ⟨w.heap.size, 0, none⟩)), (3, .pointer (some ⟨w.heap.size + 1, 0, none⟩))]) (fun _ w' => ∃ a0 a1 a2 a3 s1 s2 s3 s4, Reads bs n8 s a0 s1 ∧ Reads bs n8 s1 a1 s2 ∧ Reads bs n8 s2 a2 s3 ∧ Reads bs n8 s3 a3 s4 ∧ Ir w' h g A c bs s4 ∧ Mod (RS h g) w w' ∧ w.heap.size + 2 ≤ w'.heap.size ∧ w'.heap[w.heap.size]? = some (.cells #[zi 0, zi 0, zi 0, (.slice none 0 0), (.slice none 0 0), zi 0] 50 (0, 0)) ∧ w'.heap[w.heap.size + 1]? = some (.cells #[zi a0, zi a1, zi a2, (.slice none 0 0), (.slice none 0 0), zi a3] 50 (0, 0))) ?_ ?_
  rotate_left
  · intro K hK
    refine seq_cut (σ := Unit) (fun _ => [(0, .pointer (some ⟨h, 0, none⟩)), (2, .pointer (some ⟨w.heap.size, 0, none⟩)), (3, .pointer (some ⟨w.heap.size + 1, 0, none⟩)), (10, .slice (some ⟨w.heap.size + 2, 0, none⟩) 4 4), (11, .int .i64 ((4 : Nat) : Int)), (12, .int .i64 0)]) (fun _ w' => New w w' ∧ w.heap.size + 2 ≤ w'.heap.size ∧ w'.heap[w.heap.size]? = some (.cells #[zi 0, zi 0, zi 0, (.slice none 0 0), (.slice none 0 0), zi 0] 50 (0, 0)) ∧ w'.heap[w.heap.size + 1]? = some (.cells #[zi 0, zi 0, zi 0, (.slice none 0 0), (.slice none 0 0), zi 0] 50 (0, 0)) ∧ w'.heap[w.heap.size + 2]? = some (.cells #[.pointer (some ((⟨w.heap.size + 1, 0, none⟩ : Addr).add 0)), .pointer (some ((⟨w.heap.size + 1, 0, none⟩ : Addr).add 1)), .pointer (some ((⟨w.heap.size + 1, 0, none⟩ : Addr).add 2)), .pointer (some ((⟨w.heap.size + 1, 0, none⟩ : Addr).add 5))] 85 (0, 0))) ?_ ?_
    rotate_left
    · intro K2 hK2
      have n3 := New.alloc w2 (.cells #[.pointer (some ((⟨w.heap.size + 1, 0, none⟩ : Addr).add 0)), .pointer (some ((⟨w.heap.size + 1, 0, none⟩ : Addr).add 1)), .pointer (some ((⟨w.heap.size + 1, 0, none⟩ : Addr).add 2)), .pointer (some ((⟨w.heap.size + 1, 0, none⟩ : Addr).add 5))] 85)
      have hb3 := heap_alloc_new w2 (.cells #[.pointer (some ((⟨w.heap.size + 1, 0, none⟩ : Addr).add 0)), .pointer (some ((⟨w.heap.size + 1, 0, none⟩ : Addr).add 1)), .pointer (some ((⟨w.heap.size + 1, 0, none⟩ : Addr).add 2)), .pointer (some ((⟨w.heap.size + 1, 0, none⟩ : Addr).add 5))] 85)
      rw [z2] at hb3
      have z3 : w.heap.size + 2 ≤ (w2.alloc (.cells #[.pointer (some ((⟨w.heap.size + 1, 0, none⟩ : Addr).add 0)), .pointer (some ((⟨w.heap.size + 1, 0, none⟩ : Addr).add 1)), .pointer (some ((⟨w.heap.size + 1, 0, none⟩ : Addr).add 2)), .pointer (some ((⟨w.heap.size + 1, 0, none⟩ : Addr).add 5))] 85)).heap.size := by simp [z2]
      exact hK2 () _ _ ⟨rfl, rfl, rfl, (show Value.slice (some ⟨w2.heap.size, 0, none⟩) 4 4 = _ by rw [z2]), rfl, rfl, trivial⟩ ⟨n2.trans n3, z3, n3.blk hZ2, n3.blk hX2, hb3⟩
    rintro _ w3 fr3 ⟨n3, z3, hZ3, hX3, hP3⟩
    refine den_loop (σ := List Int × RSt) (fun t => [(0, .pointer (some ⟨h, 0, none⟩)), (2, .pointer (some ⟨w.heap.size, 0, none⟩)), (3, .pointer (some ⟨w.heap.size + 1, 0, none⟩)), (10, .slice (some ⟨w.heap.size + 2, 0, none⟩) 4 4), (11, .int .i64 ((4 : Nat) : Int)), (12, .int .i64 (t.1.length : Int))])
      (fun m t wl => m + t.1.length = 4 ∧ Nums bs s t.1 t.2 ∧ Ir wl h g A c bs t.2 ∧ Mod (RS h g) w wl ∧ w.heap.size + 2 ≤ wl.heap.size ∧ wl.heap[w.heap.size]? = some (.cells #[zi 0, zi 0, zi 0, (.slice none 0 0), (.slice none 0 0), zi 0] 50 (0, 0)) ∧ wl.heap[w.heap.size + 1]? = some (.cells #[zi (t.1.getD 0 0), zi (t.1.getD 1 0), zi (t.1.getD 2 0), (.slice none 0 0), (.slice none 0 0), zi (t.1.getD 3 0)] 50 (0, 0)) ∧ wl.heap[w.heap.size + 2]? = some (.cells #[.pointer (some ((⟨w.heap.size + 1, 0, none⟩ : Addr).add 0)), .pointer (some ((⟨w.heap.size + 1, 0, none⟩ : Addr).add 1)), .pointer (some ((⟨w.heap.size + 1, 0, none⟩ : Addr).add 2)), .pointer (some ((⟨w.heap.size + 1, 0, none⟩ : Addr).add 5))] 85 (0, 0))) 4 ([], s)
      ⟨rfl, rfl, rfl, rfl, rfl, rfl, trivial⟩ ⟨rfl, rfl, p.new n3, n3.mod, z3, hZ3, hX3, hP3⟩ ?_
    rintro m ⟨ns, s1⟩ wl frl ⟨hlen, hnum, pl, kl, zl, hZl, hXl, hPl⟩
    dsimp only at hlen hnum pl hXl
    rcases ns with _ | ⟨a0, _ | ⟨a1, _ | ⟨a2, _ | ⟨a3, _ | ⟨x, r⟩⟩⟩⟩⟩
    · refine And.intro (by simp) (And.intro (by simp) ?_)
      refine Exists.intro (some ((⟨w.heap.size + 1, 0, none⟩ : Addr).add 0)) (And.intro (cellB hPl rfl) ?_)
      refine call_ (number_ok h g A c bs s1 wl pl) ?_
      rintro e w4 ⟨q, s4, rfl, rd4, p4, m4⟩
      refine ⟨_, rfl, ?_⟩
      have m4z := m4.size
      have hX4 := m4.blk hXl (nR _ (by omega))
      refine And.intro ⟨_, cellB hX4 rfl⟩ (And.intro (fzB hX4 _) (force_ ?_))
      refine stK hX4 (show (0 : Nat) < 6 by decide) ?_
      intro w5 hX5 m5 s5
      exact ⟨m - 1, ([] ++ [q], s4), (by simp at hlen; omega), ⟨rfl, rfl, rfl, rfl, rfl, by rfl, trivial⟩, (by simp at hlen ⊢; omega), hnum.snoc rd4, p.loc p4 m5 (by omega), Mod.trans (both kl m4) m5 fun b hb e => by omega, by omega, m5.blk (m4.blk hZl (nR _ (Nat.le_refl _))) (by omega), hX5, m5.blk (m4.blk hPl (nR _ (by omega))) (by omega)⟩
    · refine And.intro (by simp) (And.intro (by simp) ?_)
      refine Exists.intro (some ((⟨w.heap.size + 1, 0, none⟩ : Addr).add 1)) (And.intro (cellB hPl rfl) ?_)
      refine call_ (number_ok h g A c bs s1 wl pl) ?_
      rintro e w4 ⟨q, s4, rfl, rd4, p4, m4⟩
      refine ⟨_, rfl, ?_⟩
      have m4z := m4.size
      have hX4 := m4.blk hXl (nR _ (by omega))
      refine And.intro ⟨_, cellB hX4 rfl⟩ (And.intro (fzB hX4 _) (force_ ?_))
      refine stK hX4 (show (1 : Nat) < 6 by decide) ?_
      intro w5 hX5 m5 s5
      exact ⟨m - 1, ([a0] ++ [q], s4), (by simp at hlen; omega), ⟨rfl, rfl, rfl, rfl, rfl, by rfl, trivial⟩, (by simp at hlen ⊢; omega), hnum.snoc rd4, p.loc p4 m5 (by omega), Mod.trans (both kl m4) m5 fun b hb e => by omega, by omega, m5.blk (m4.blk hZl (nR _ (Nat.le_refl _))) (by omega), hX5, m5.blk (m4.blk hPl (nR _ (by omega))) (by omega)⟩
    · refine And.intro (by simp) (And.intro (by simp) ?_)
      refine Exists.intro (some ((⟨w.heap.size + 1, 0, none⟩ : Addr).add 2)) (And.intro (cellB hPl rfl) ?_)
      refine call_ (number_ok h g A c bs s1 wl pl) ?_
      rintro e w4 ⟨q, s4, rfl, rd4, p4, m4⟩
      refine ⟨_, rfl, ?_⟩
      have m4z := m4.size
      have hX4 := m4.blk hXl (nR _ (by omega))
      refine And.intro ⟨_, cellB hX4 rfl⟩ (And.intro (fzB hX4 _) (force_ ?_))
      refine stK hX4 (show (2 : Nat) < 6 by decide) ?_
      intro w5 hX5 m5 s5
      exact ⟨m - 1, ([a0, a1] ++ [q], s4), (by simp at hlen; omega), ⟨rfl, rfl, rfl, rfl, rfl, by rfl, trivial⟩, (by simp at hlen ⊢; omega), hnum.snoc rd4, p.loc p4 m5 (by omega), Mod.trans (both kl m4) m5 fun b hb e => by omega, by omega, m5.blk (m4.blk hZl (nR _ (Nat.le_refl _))) (by omega), hX5, m5.blk (m4.blk hPl (nR _ (by omega))) (by omega)⟩
    · refine And.intro (by simp) (And.intro (by simp) ?_)
      refine Exists.intro (some ((⟨w.heap.size + 1, 0, none⟩ : Addr).add 5)) (And.intro (cellB hPl rfl) ?_)
      refine call_ (number_ok h g A c bs s1 wl pl) ?_
      rintro e w4 ⟨q, s4, rfl, rd4, p4, m4⟩
      refine ⟨_, rfl, ?_⟩
      have m4z := m4.size
      have hX4 := m4.blk hXl (nR _ (by omega))
      refine And.intro ⟨_, cellB hX4 rfl⟩ (And.intro (fzB hX4 _) (force_ ?_))
      refine stK hX4 (show (5 : Nat) < 6 by decide) ?_
      intro w5 hX5 m5 s5
      exact ⟨m - 1, ([a0, a1, a2] ++ [q], s4), (by simp at hlen; omega), ⟨rfl, rfl, rfl, rfl, rfl, by rfl, trivial⟩, (by simp at hlen ⊢; omega), hnum.snoc rd4, p.loc p4 m5 (by omega), Mod.trans (both kl m4) m5 fun b hb e => by omega, by omega, m5.blk (m4.blk hZl (nR _ (Nat.le_refl _))) (by omega), hX5, m5.blk (m4.blk hPl (nR _ (by omega))) (by omega)⟩
    · obtain ⟨s1, r0, s2, r1, s3, r2, s4, r3, rfl⟩ := hnum
      exact hK () _ _ ⟨rfl, rfl, rfl, trivial⟩ ⟨a0, a1, a2, a3, s1, s2, s3, s4, r0, r1, r2, r3, pl, kl, zl, hZl, hXl⟩
    · exfalso
      simp at hlen
      omega
  rintro _ w3 fr3 ⟨a0, a1, a2, a3, s1, s2, s3, s4, r0, r1, r2, r3, p3, k3, z3, hZ3, hX3⟩
  refine seq_cut (σ := Value) (fun _ => [(0, .pointer (some ⟨h, 0, none⟩)), (2, .pointer (some ⟨w.heap.size, 0, none⟩)), (3, .pointer (some ⟨w.heap.size + 1, 0, none⟩))]) (fun v w' => ∃ xs s', LRep valR w' (fun b => b < w.heap.size + 2) v xs ∧ Reads bs (list 4 Image.w4 valF) s4 xs s' ∧ Ir w' h g A c bs s' ∧ Mod (RS h g) w w' ∧ w.heap.size + 2 ≤ w'.heap.size ∧ w'.heap[w.heap.size]? = some (.cells #[zi 0, zi 0, zi 0, (.slice none 0 0), (.slice none 0 0), zi 0] 50 (0, 0)) ∧ w'.heap[w.heap.size + 1]? = some (.cells #[zi a0, zi a1, zi a2, v, (.slice none 0 0), zi a3] 50 (0, 0))) ?_ ?_
  rotate_left
  · intro K hK
    refine call_ (members_val h g A c bs s4 w3 p3 hm) ?_
    rintro e wa ⟨v, xs, s4, rfl, hv, rd4, p4, m4⟩
    have hq := hv
    obtain ⟨A7, c7, ts7, rfl, _⟩ := hv
    refine ⟨_, rfl, ?_⟩
    have m4z := m4.size
    have hX4 := m4.blk hX3 (nR _ (by omega))
    refine And.intro ⟨_, cellB hX4 rfl⟩ (And.intro (fzB hX4 _) (force_ ?_))
    refine stK hX4 (show (3 : Nat) < 6 by decide) ?_
    intro wb hX5 m5 s5
    refine hK _ _ _ ⟨rfl, rfl, rfl, trivial⟩ ⟨xs, s4, ?_, rd4, p.loc p4 m5 (by omega), Mod.trans (both k3 m4) m5 fun b hb e => by omega, by omega, m5.blk (m4.blk hZ3 (nR _ (Nat.le_refl _))) (by omega), hX5⟩
    · exact LRep.mod valOk (by decide) (LRep.weak valOk (S' := fun b => b < w.heap.size + 2) hq fun b hb e => by omega) (m5.mono fun b hb e => by omega)
  rintro v0 w4 fr4 ⟨xs0, t0, hv0, l0, p4, k4, z4, hZ4, hX4⟩
  refine seq_cut (σ := Value) (fun _ => [(0, .pointer (some ⟨h, 0, none⟩)), (2, .pointer (some ⟨w.heap.size, 0, none⟩)), (3, .pointer (some ⟨w.heap.size + 1, 0, none⟩))]) (fun v w' => ∃ xs s', LRep valR w' (fun b => b < w.heap.size + 2) v xs ∧ Reads bs (list 4 Image.w4 valF) t0 xs s' ∧ Ir w' h g A c bs s' ∧ Mod (RS h g) w w' ∧ w.heap.size + 2 ≤ w'.heap.size ∧ w'.heap[w.heap.size]? = some (.cells #[zi 0, zi 0, zi 0, (.slice none 0 0), (.slice none 0 0), zi 0] 50 (0, 0)) ∧ w'.heap[w.heap.size + 1]? = some (.cells #[zi a0, zi a1, zi a2, v0, v, zi a3] 50 (0, 0)) ∧ LRep valR w' (fun b => b < w.heap.size + 2) v0 xs0) ?_ ?_
  rotate_left
  · intro K hK
    refine call_ (members_val h g A c bs t0 w4 p4 hm) ?_
    rintro e wa ⟨v, xs, s4, rfl, hv, rd4, p4, m4⟩
    have hq := hv
    obtain ⟨A7, c7, ts7, rfl, _⟩ := hv
    refine ⟨_, rfl, ?_⟩
    have m4z := m4.size
    have hX4 := m4.blk hX4 (nR _ (by omega))
    refine And.intro ⟨_, cellB hX4 rfl⟩ (And.intro (fzB hX4 _) (force_ ?_))
    refine stK hX4 (show (4 : Nat) < 6 by decide) ?_
    intro wb hX5 m5 s5
    refine hK _ _ _ ⟨rfl, rfl, rfl, trivial⟩ ⟨xs, s4, ?_, rd4, p.loc p4 m5 (by omega), Mod.trans (both k4 m4) m5 fun b hb e => by omega, by omega, m5.blk (m4.blk hZ4 (nR _ (Nat.le_refl _))) (by omega), hX5, ?_⟩
    · exact LRep.mod valOk (by decide) (LRep.weak valOk (S' := fun b => b < w.heap.size + 2) hq fun b hb e => by omega) (m5.mono fun b hb e => by omega)
    · exact (LRep.mod valOk (by decide) (LRep.mod valOk (by decide) hv0 (m4.mono fun b hb e => by rcases e with e | e <;> omega)) (m5.mono fun b hb e => by omega))
  rintro v1 w5 fr5 ⟨xs1, t1, hv1, l1, p5, k5, z5, hZ5, hX5, hv0⟩
  obtain ⟨Av0, cv0, tsv0, hev0, hrv0⟩ := hv0
  have hv0 : LRep valR w5 (fun b => b < w.heap.size + 2) v0 xs0 := ⟨Av0, cv0, tsv0, hev0, hrv0⟩
  subst hev0
  obtain ⟨Av1, cv1, tsv1, hev1, hrv1⟩ := hv1
  have hv1 : LRep valR w5 (fun b => b < w.heap.size + 2) v1 xs1 := ⟨Av1, cv1, tsv1, hev1, hrv1⟩
  subst hev1
  have hone : ∀ u ∈ ([zi a0, zi a1, zi a2, (.slice Av0 xs0.length cv0), (.slice Av1 xs1.length cv1), zi a3] : List Value), u.oneCell' = true := callOk.one (w := w5) (S := fun b => b < w.heap.size + 2) (x := ⟨a0, a1, a2, a3, xs0, xs1⟩) ⟨_, _, rfl, hv0, hv1⟩
  refine loadN_row (vs := [zi a0, zi a1, zi a2, (.slice Av0 xs0.length cv0), (.slice Av1 xs1.length cv1), zi a3]) (rowB hX5) rfl ?_
  refine And.intro rfl ?_
  refine storeN_all (vs := [zi a0, zi a1, zi a2, (.slice Av0 xs0.length cv0), (.slice Av1 xs1.length cv1), zi a3]) hZ5 rfl hone ?_
  intro w9 hb9 m9 s9
  refine loadN_row (vs := [zi a0, zi a1, zi a2, (.slice Av0 xs0.length cv0), (.slice Av1 xs1.length cv1), zi a3]) (rowB hb9) rfl ?_
  refine ⟨[zi a0, zi a1, zi a2, (.slice Av0 xs0.length cv0), (.slice Av1 xs1.length cv1), zi a3], ⟨a0, a1, a2, a3, xs0, xs1⟩, t1, rfl, ?_, reads_call r0 r1 r2 r3 l0 l1, p.loc p5 m9 (Nat.le_refl _), Mod.trans k5 m9 fun b hb e => by omega⟩
  have hrep : callR w5 (fun b => b < w.heap.size + 2) [zi a0, zi a1, zi a2, (.slice Av0 xs0.length cv0), (.slice Av1 xs1.length cv1), zi a3] ⟨a0, a1, a2, a3, xs0, xs1⟩ := ⟨_, _, rfl, hv0, hv1⟩
  exact callOk.weak (callOk.mod hrep (m9.mono fun b hb e => by omega)) fun b hb e => by omega

theorem members_call (h g : Nat) (A : Option Addr) (c : Nat) (bs : List UInt8) (s : RSt) (w : World) (p : Ir w h g A c bs s) (hm : bs.length ≤ 1000000000) :
    Calls Try.prog 71 #[.pointer (some ⟨h, 0, none⟩), .func (.func 72) #[.pointer (some ⟨h, 0, none⟩)] #[]] w fun e w' => ∃ v xs s', e = .returned v ∧ LRep callR w' (fun b => b < w.heap.size) v xs ∧ Reads bs (list 4 w4 callF) s xs s' ∧ Ir w' h g A c bs s' ∧ Mod (RS h g) w w' := by
  refine enter ok Try.func71 rfl rfl rfl ?_
  obtain ⟨hh, hg⟩ := p.lt
  refine seq_assign ?_
  refine seq_assign ?_
  refine seq_cut (σ := (Option Addr × Nat) × List (List Value × Call)) (fun t => [(5, .slice t.1.1 t.2.length t.1.2)]) (fun t w' => ∃ s', LRep callR w' (fun b => b < w.heap.size) (.slice t.1.1 t.2.length t.1.2) (t.2.map (·.2)) ∧ Reads bs (list 4 w4 callF) s (t.2.map (·.2)) s' ∧ Ir w' h g A c bs s' ∧ Mod (RS h g) w w') ?_ ?_
  · rintro t w1 fr1 ⟨s', h1, h2, h3, h4⟩
    exact ⟨_, _, s', rfl, h1, h2, h3, h4⟩
  intro K hK
  refine seq_cut (σ := Int) (fun n => [(0, .pointer (some ⟨h, 0, none⟩)), (1, .func (.func 72) #[.pointer (some ⟨h, 0, none⟩)] #[]), (5, .slice none 0 0), (6, zi n)]) (fun n w' => ∃ s1, Reads bs (num 4 false w4) s n s1 ∧ n ≤ 4294967295 ∧ Ir w' h g A c bs s1 ∧ Mod (RS h g) w w') ?_ ?_
  rotate_left
  · intro K2 hK2
    refine Exists.intro (some ⟨g, 0, none⟩) (And.intro (cellB p.blk rfl) ?_)
    refine call_ (get_ok h g A c bs s false 4 w4 w p) ?_
    rintro e w1 ⟨n, s1, rfl, rd1, hb, p1, m1⟩
    refine ⟨_, rfl, ?_⟩
    exact hK2 n _ _ ⟨rfl, rfl, rfl, rfl, trivial⟩ ⟨s1, rd1, (hb (.inr (.inr rfl))).2, p1, m1⟩
  rintro n w1 fr1 ⟨s1, rd1, hn, p1, m1⟩
  refine den_loop (σ := ((Option Addr × Nat) × List (List Value × Call)) × Int × RSt) (fun t => [(0, .pointer (some ⟨h, 0, none⟩)), (1, .func (.func 72) #[.pointer (some ⟨h, 0, none⟩)] #[]), (5, .slice t.1.1.1 t.1.2.length t.1.1.2), (6, zi t.2.1)])
    (fun m t wl => m = t.2.1.toNat ∧ LInv bs callF s (t.1.2.map (·.2)) t.2.1.toNat t.2.2 ∧ t.2.1.toNat + t.1.2.length ≤ 4294967296 ∧ t.2.1 ≤ 4294967295 ∧ Ir wl h g A c bs t.2.2 ∧ Mod (RS h g) w wl ∧ wl.ownsRow w.heap.size 50 6 (.slice t.1.1.1 t.1.2.length t.1.1.2) t.1.2.length (cellsOf t.1.2) ∧
      ∀ y ∈ t.1.2, callR wl (fun b => b < w.heap.size ∨ some b = (Value.slice t.1.1.1 t.1.2.length t.1.1.2).ownBlock) y.1 y.2) n.toNat (((none, 0), []), n, s1)
    ⟨rfl, rfl, rfl, rfl, trivial⟩ ⟨rfl, LInv.start rd1, by simp; omega, hn, p1, m1, ⟨rfl, .inl ⟨rfl, rfl⟩⟩, fun _ h => (by cases h)⟩ ?_
  rintro m ⟨⟨⟨Al, cl⟩, ts⟩, q, s2⟩ wl frl ⟨rfl, hinv, hcnt, hq, pl, kl, own, hts⟩
  dsimp only at hinv hcnt hq pl own hts
  have hown := fun b (e : (Value.slice Al ts.length cl).ownBlock = some b) => own.lt b e
  have klz := kl.size
  have fin : (s2.2 = false → q.toNat = 0) → ∃ s', LRep callR wl (fun b => b < w.heap.size) (.slice Al ts.length cl) (ts.map (·.2)) ∧ Reads bs (list 4 w4 callF) s (ts.map (·.2)) s' ∧ Ir wl h g A c bs s' ∧ Mod (RS h g) w wl := fun hz => by
    obtain ⟨A', c', e', h5, h6, row, ho⟩ := own_slice own
    cases e'
    exact ⟨s2, ⟨Al, cl, ts, by rw [List.length_map], rfl, by rw [List.length_map]; exact h5, h6, by rw [List.length_map]; omega, row, fun a ha _ => ⟨(ho a ha).2.1, by have := (ho a ha).1; omega⟩, fun t ht => callOk.weak (hts t ht) fun b _ hb => .inl hb⟩, hinv.done hz, pl, kl⟩
  refine if_p (fun hlt => ?_) (fun hge => ?_)
  · replace hlt : 0 < q := hlt
    refine Exists.intro s2.2 (And.intro (cellB pl.blk rfl) ?_)
    refine if_ (fun hz => ?_) (fun hz => ?_)
    · replace hz : s2.2 = false := by simpa using hz
      obtain ⟨k, hk⟩ : ∃ k, q.toNat = k + 1 := ⟨q.toNat - 1, by omega⟩
      rw [hk] at hinv
      have hk' : (q - 1).toNat = k := by omega
      refine call_ (call_ok h g A c bs s2 wl pl hm) ?_
      rintro e w5 ⟨cs, x, s5, he, hx, rd5, p5, m5⟩
      subst he
      have hx0 := hx
      obtain ⟨v, u, rfl, hv, hu⟩ := hx
      obtain ⟨Av, cv, tv, rfl, _⟩ := hv
      obtain ⟨Au, cu, tu, rfl, _⟩ := hu
      refine ⟨_, rfl, ?_⟩
      have m5z := m5.size
      have hnR : ∀ b, w.heap.size ≤ b → ¬ RS h g b := fun b hb e => by rcases e with e | e <;> omega
      have own5 := own_mod m5 own (fun b hb => hnR b (hown b hb).1)
      have n6 := New.alloc w5 (.cells [zi x.cl, zi x.me, zi x.at_, .slice Av x.locals.length cv, .slice Au x.stack.length cu, zi x.lock].toArray 50)
      refine append2_ ok rfl rfl rfl rfl (own_new n6 own5) rfl rfl (row_alloc w5 [zi x.cl, zi x.me, zi x.at_, .slice Av x.locals.length cv, .slice Au x.stack.length cu, zi x.lock] _ _) rfl (callOk.one hx0) (by decide) rfl (by show (ts.length + 1) * 80 ≤ _; omega) (by omega) (Nat.le_trans (by omega) n6.size) ?_
      intro A7 c7 w7 own7 mod7 st7
      have k57 : Mod (fun b => some b = (Value.slice Al ts.length cl).ownBlock) w5 w7 := Mod.trans n6.mod mod7 fun _ _ e => e
      have hl : (ts ++ [([zi x.cl, zi x.me, zi x.at_, .slice Av x.locals.length cv, .slice Au x.stack.length cu, zi x.lock], x)]).length = ts.length + 1 := by simp
      have st : ∀ b, some b = (Value.slice A7 (ts.length + 1) c7).ownBlock → some b = (Value.slice Al ts.length cl).ownBlock ∨ w5.heap.size ≤ b := fun b e => by
        rcases st7 b e.symm with e | e
        · exact .inl e.symm
        · exact .inr (Nat.le_trans n6.size e)
      have hnew := mem_step callOk hts hx0 m5 k57 hh hg klz (fun b e => hown b e.symm) st
      have pow := p5.modN k57 (fun e => by have := hown _ e.symm; omega) (fun e => by have := hown _ e.symm; omega) (fun a ha hn e => by have := p.low a ha hn; have := hown _ e.symm; omega)
      refine ⟨(q - 1).toNat, (((A7, c7), ts ++ [([zi x.cl, zi x.me, zi x.at_, .slice Av x.locals.length cv, .slice Au x.stack.length cu, zi x.lock], x)]), q - 1, s5), (by dsimp only; omega), ⟨rfl, rfl, (show Value.slice A7 (ts.length + 1) c7 = .slice A7 (ts ++ [([zi x.cl, zi x.me, zi x.at_, .slice Av x.locals.length cv, .slice Au x.stack.length cu, zi x.lock], x)]).length c7 by rw [hl]), (show zi (IntKind.i64.wrap (q - 1)) = zi (q - 1) by rw [wrap_i64 (by omega) (by omega)]), trivial⟩, rfl, ?_, ?_, by dsimp only; omega, pow, ?_, ?_, ?_⟩
      · dsimp only
        rw [hk', List.map_append]
        exact hinv.step hz rd5
      · dsimp only
        rw [hl]
        omega
      · exact Mod.trans (both kl m5) k57 fun b hb e => by have := hown b e.symm; omega
      · dsimp only
        rw [hl, cellsOf_snoc]
        exact own7
      · dsimp only
        rw [hl]
        exact hnew
    · replace hz : s2.2 = true := by simpa using hz
      exact hK ((Al, cl), ts) _ _ ⟨rfl, trivial⟩ (fin fun h => by rw [hz] at h; cases h)
  · replace hge : ¬ 0 < q := hge
    exact hK ((Al, cl), ts) _ _ ⟨rfl, trivial⟩ (fin fun _ => by omega)
theorem thread_ok (h g : Nat) (A : Option Addr) (c : Nat) (bs : List UInt8) (s : RSt) (w : World) (p : Ir w h g A c bs s) (hm : bs.length ≤ 1000000000) :
    Calls Try.prog 45 #[.pointer (some ⟨h, 0, none⟩)] w fun e w' => ∃ cs x s', e = .returned (.agg cs.toArray) ∧ thrR w' (fun b => b < w.heap.size) cs x ∧ Reads bs thrF s x s' ∧ Ir w' h g A c bs s' ∧ Mod (RS h g) w w' := by
  refine enter ok Try.func45 rfl rfl rfl ?_
  obtain ⟨hh, hg⟩ := p.lt
  have nR : ∀ b, w.heap.size ≤ b → ¬ RS h g b := fun b hb e => by rcases e with e | e <;> omega
  refine seq_cut (σ := Unit) (fun _ => [(0, .pointer (some ⟨h, 0, none⟩)), (2, .pointer (some ⟨w.heap.size, 0, none⟩))]) (fun _ w' => New w w' ∧ w'.heap.size = w.heap.size + 1 ∧ w'.heap[w.heap.size]? = some (.cells #[zi 0, (.slice none 0 0), zi 0, zi 0] 48 (0, 0))) ?_ ?_
  rotate_left
  · intro K hK
    exact hK () _ _ ⟨rfl, rfl, trivial⟩ ⟨New.alloc w _, by simp, heap_alloc_new w (.cells #[zi 0, (.slice none 0 0), zi 0, zi 0] 48)⟩
  rintro _ w1 fr1 ⟨n1, z1, hZ1⟩
  refine seq_cut (σ := Unit) (fun _ => [(0, .pointer (some ⟨h, 0, none⟩)), (2, .pointer (some ⟨w.heap.size, 0, none⟩)), (3, .pointer (some ⟨w.heap.size + 1, 0, none⟩))]) (fun _ w' => New w w' ∧ w'.heap.size = w.heap.size + 2 ∧ w'.heap[w.heap.size]? = some (.cells #[zi 0, (.slice none 0 0), zi 0, zi 0] 48 (0, 0)) ∧ w'.heap[w.heap.size + 1]? = some (.cells #[zi 0, (.slice none 0 0), zi 0, zi 0] 48 (0, 0))) ?_ ?_
  rotate_left
  · intro K hK
    have n2 := New.alloc w1 (.cells #[zi 0, (.slice none 0 0), zi 0, zi 0] 48)
    have hb2 := heap_alloc_new w1 (.cells #[zi 0, (.slice none 0 0), zi 0, zi 0] 48)
    rw [z1] at hb2
    exact hK () _ _ ⟨rfl, rfl, (show Value.pointer (some ⟨w1.heap.size, 0, none⟩) = _ by rw [z1]), trivial⟩ ⟨n1.trans n2, by simp [z1], n2.blk hZ1, hb2⟩
  rintro _ w2 fr2 ⟨n2, z2, hZ2, hX2⟩
  -- the numbers
  refine seq_cut (σ := Unit) (fun _ => [(0, .pointer (some ⟨h, 0, none⟩)), (2, .pointer (some ⟨w.heap.size, 0, none⟩)), (3, .pointer (some ⟨w.heap.size + 1, 0, none⟩))]) (fun _ w' => ∃ a0 a1 a2 s1 s2 s3, Reads bs n8 s a0 s1 ∧ Reads bs n8 s1 a1 s2 ∧ Reads bs n8 s2 a2 s3 ∧ Ir w' h g A c bs s3 ∧ Mod (RS h g) w w' ∧ w.heap.size + 2 ≤ w'.heap.size ∧ w'.heap[w.heap.size]? = some (.cells #[zi 0, (.slice none 0 0), zi 0, zi 0] 48 (0, 0)) ∧ w'.heap[w.heap.size + 1]? = some (.cells #[zi a0, (.slice none 0 0), zi a1, zi a2] 48 (0, 0))) ?_ ?_
  rotate_left
  · intro K hK
    refine seq_cut (σ := Unit) (fun _ => [(0, .pointer (some ⟨h, 0, none⟩)), (2, .pointer (some ⟨w.heap.size, 0, none⟩)), (3, .pointer (some ⟨w.heap.size + 1, 0, none⟩)), (9, .slice (some ⟨w.heap.size + 2, 0, none⟩) 3 3), (10, .int .i64 ((3 : Nat) : Int)), (11, .int .i64 0)]) (fun _ w' => New w w' ∧ w.heap.size + 2 ≤ w'.heap.size ∧ w'.heap[w.heap.size]? = some (.cells #[zi 0, (.slice none 0 0), zi 0, zi 0] 48 (0, 0)) ∧ w'.heap[w.heap.size + 1]? = some (.cells #[zi 0, (.slice none 0 0), zi 0, zi 0] 48 (0, 0)) ∧ w'.heap[w.heap.size + 2]? = some (.cells #[.pointer (some ((⟨w.heap.size + 1, 0, none⟩ : Addr).add 0)), .pointer (some ((⟨w.heap.size + 1, 0, none⟩ : Addr).add 2)), .pointer (some ((⟨w.heap.size + 1, 0, none⟩ : Addr).add 3))] 85 (0, 0))) ?_ ?_
    rotate_left
    · intro K2 hK2
      have n3 := New.alloc w2 (.cells #[.pointer (some ((⟨w.heap.size + 1, 0, none⟩ : Addr).add 0)), .pointer (some ((⟨w.heap.size + 1, 0, none⟩ : Addr).add 2)), .pointer (some ((⟨w.heap.size + 1, 0, none⟩ : Addr).add 3))] 85)
      have hb3 := heap_alloc_new w2 (.cells #[.pointer (some ((⟨w.heap.size + 1, 0, none⟩ : Addr).add 0)), .pointer (some ((⟨w.heap.size + 1, 0, none⟩ : Addr).add 2)), .pointer (some ((⟨w.heap.size + 1, 0, none⟩ : Addr).add 3))] 85)
      rw [z2] at hb3
      have z3 : w.heap.size + 2 ≤ (w2.alloc (.cells #[.pointer (some ((⟨w.heap.size + 1, 0, none⟩ : Addr).add 0)), .pointer (some ((⟨w.heap.size + 1, 0, none⟩ : Addr).add 2)), .pointer (some ((⟨w.heap.size + 1, 0, none⟩ : Addr).add 3))] 85)).heap.size := by simp [z2]
      exact hK2 () _ _ ⟨rfl, rfl, rfl, (show Value.slice (some ⟨w2.heap.size, 0, none⟩) 3 3 = _ by rw [z2]), rfl, rfl, trivial⟩ ⟨n2.trans n3, z3, n3.blk hZ2, n3.blk hX2, hb3⟩
    rintro _ w3 fr3 ⟨n3, z3, hZ3, hX3, hP3⟩
    refine den_loop (σ := List Int × RSt) (fun t => [(0, .pointer (some ⟨h, 0, none⟩)), (2, .pointer (some ⟨w.heap.size, 0, none⟩)), (3, .pointer (some ⟨w.heap.size + 1, 0, none⟩)), (9, .slice (some ⟨w.heap.size + 2, 0, none⟩) 3 3), (10, .int .i64 ((3 : Nat) : Int)), (11, .int .i64 (t.1.length : Int))])
      (fun m t wl => m + t.1.length = 3 ∧ Nums bs s t.1 t.2 ∧ Ir wl h g A c bs t.2 ∧ Mod (RS h g) w wl ∧ w.heap.size + 2 ≤ wl.heap.size ∧ wl.heap[w.heap.size]? = some (.cells #[zi 0, (.slice none 0 0), zi 0, zi 0] 48 (0, 0)) ∧ wl.heap[w.heap.size + 1]? = some (.cells #[zi (t.1.getD 0 0), (.slice none 0 0), zi (t.1.getD 1 0), zi (t.1.getD 2 0)] 48 (0, 0)) ∧ wl.heap[w.heap.size + 2]? = some (.cells #[.pointer (some ((⟨w.heap.size + 1, 0, none⟩ : Addr).add 0)), .pointer (some ((⟨w.heap.size + 1, 0, none⟩ : Addr).add 2)), .pointer (some ((⟨w.heap.size + 1, 0, none⟩ : Addr).add 3))] 85 (0, 0))) 3 ([], s)
      ⟨rfl, rfl, rfl, rfl, rfl, rfl, trivial⟩ ⟨rfl, rfl, p.new n3, n3.mod, z3, hZ3, hX3, hP3⟩ ?_
    rintro m ⟨ns, s1⟩ wl frl ⟨hlen, hnum, pl, kl, zl, hZl, hXl, hPl⟩
    dsimp only at hlen hnum pl hXl
    rcases ns with _ | ⟨a0, _ | ⟨a1, _ | ⟨a2, _ | ⟨x, r⟩⟩⟩⟩
    · refine And.intro (by simp) (And.intro (by simp) ?_)
      refine Exists.intro (some ((⟨w.heap.size + 1, 0, none⟩ : Addr).add 0)) (And.intro (cellB hPl rfl) ?_)
      refine call_ (number_ok h g A c bs s1 wl pl) ?_
      rintro e w4 ⟨q, s4, rfl, rd4, p4, m4⟩
      refine ⟨_, rfl, ?_⟩
      have m4z := m4.size
      have hX4 := m4.blk hXl (nR _ (by omega))
      refine And.intro ⟨_, cellB hX4 rfl⟩ (And.intro (fzB hX4 _) (force_ ?_))
      refine stK hX4 (show (0 : Nat) < 4 by decide) ?_
      intro w5 hX5 m5 s5
      exact ⟨m - 1, ([] ++ [q], s4), (by simp at hlen; omega), ⟨rfl, rfl, rfl, rfl, rfl, by rfl, trivial⟩, (by simp at hlen ⊢; omega), hnum.snoc rd4, p.loc p4 m5 (by omega), Mod.trans (both kl m4) m5 fun b hb e => by omega, by omega, m5.blk (m4.blk hZl (nR _ (Nat.le_refl _))) (by omega), hX5, m5.blk (m4.blk hPl (nR _ (by omega))) (by omega)⟩
    · refine And.intro (by simp) (And.intro (by simp) ?_)
      refine Exists.intro (some ((⟨w.heap.size + 1, 0, none⟩ : Addr).add 2)) (And.intro (cellB hPl rfl) ?_)
      refine call_ (number_ok h g A c bs s1 wl pl) ?_
      rintro e w4 ⟨q, s4, rfl, rd4, p4, m4⟩
      refine ⟨_, rfl, ?_⟩
      have m4z := m4.size
      have hX4 := m4.blk hXl (nR _ (by omega))
      refine And.intro ⟨_, cellB hX4 rfl⟩ (And.intro (fzB hX4 _) (force_ ?_))
      refine stK hX4 (show (2 : Nat) < 4 by decide) ?_
      intro w5 hX5 m5 s5
      exact ⟨m - 1, ([a0] ++ [q], s4), (by simp at hlen; omega), ⟨rfl, rfl, rfl, rfl, rfl, by rfl, trivial⟩, (by simp at hlen ⊢; omega), hnum.snoc rd4, p.loc p4 m5 (by omega), Mod.trans (both kl m4) m5 fun b hb e => by omega, by omega, m5.blk (m4.blk hZl (nR _ (Nat.le_refl _))) (by omega), hX5, m5.blk (m4.blk hPl (nR _ (by omega))) (by omega)⟩
    · refine And.intro (by simp) (And.intro (by simp) ?_)
      refine Exists.intro (some ((⟨w.heap.size + 1, 0, none⟩ : Addr).add 3)) (And.intro (cellB hPl rfl) ?_)
      refine call_ (number_ok h g A c bs s1 wl pl) ?_
      rintro e w4 ⟨q, s4, rfl, rd4, p4, m4⟩
      refine ⟨_, rfl, ?_⟩
      have m4z := m4.size
      have hX4 := m4.blk hXl (nR _ (by omega))
      refine And.intro ⟨_, cellB hX4 rfl⟩ (And.intro (fzB hX4 _) (force_ ?_))
      refine stK hX4 (show (3 : Nat) < 4 by decide) ?_
      intro w5 hX5 m5 s5
      exact ⟨m - 1, ([a0, a1] ++ [q], s4), (by simp at hlen; omega), ⟨rfl, rfl, rfl, rfl, rfl, by rfl, trivial⟩, (by simp at hlen ⊢; omega), hnum.snoc rd4, p.loc p4 m5 (by omega), Mod.trans (both kl m4) m5 fun b hb e => by omega, by omega, m5.blk (m4.blk hZl (nR _ (Nat.le_refl _))) (by omega), hX5, m5.blk (m4.blk hPl (nR _ (by omega))) (by omega)⟩
    · obtain ⟨s1, r0, s2, r1, s3, r2, rfl⟩ := hnum
      exact hK () _ _ ⟨rfl, rfl, rfl, trivial⟩ ⟨a0, a1, a2, s1, s2, s3, r0, r1, r2, pl, kl, zl, hZl, hXl⟩
    · exfalso
      simp at hlen
      omega
  rintro _ w3 fr3 ⟨a0, a1, a2, s1, s2, s3, r0, r1, r2, p3, k3, z3, hZ3, hX3⟩
  refine seq_cut (σ := Value) (fun _ => [(0, .pointer (some ⟨h, 0, none⟩)), (2, .pointer (some ⟨w.heap.size, 0, none⟩)), (3, .pointer (some ⟨w.heap.size + 1, 0, none⟩))]) (fun v w' => ∃ xs s', LRep callR w' (fun b => b < w.heap.size + 2) v xs ∧ Reads bs (list 4 Image.w4 callF) s3 xs s' ∧ Ir w' h g A c bs s' ∧ Mod (RS h g) w w' ∧ w.heap.size + 2 ≤ w'.heap.size ∧ w'.heap[w.heap.size]? = some (.cells #[zi 0, (.slice none 0 0), zi 0, zi 0] 48 (0, 0)) ∧ w'.heap[w.heap.size + 1]? = some (.cells #[zi a0, v, zi a1, zi a2] 48 (0, 0))) ?_ ?_
  rotate_left
  · intro K hK
    refine call_ (members_call h g A c bs s3 w3 p3 hm) ?_
    rintro e wa ⟨v, xs, s4, rfl, hv, rd4, p4, m4⟩
    have hq := hv
    obtain ⟨A7, c7, ts7, rfl, _⟩ := hv
    refine ⟨_, rfl, ?_⟩
    have m4z := m4.size
    have hX4 := m4.blk hX3 (nR _ (by omega))
    refine And.intro ⟨_, cellB hX4 rfl⟩ (And.intro (fzB hX4 _) (force_ ?_))
    refine stK hX4 (show (1 : Nat) < 4 by decide) ?_
    intro wb hX5 m5 s5
    refine hK _ _ _ ⟨rfl, rfl, rfl, trivial⟩ ⟨xs, s4, ?_, rd4, p.loc p4 m5 (by omega), Mod.trans (both k3 m4) m5 fun b hb e => by omega, by omega, m5.blk (m4.blk hZ3 (nR _ (Nat.le_refl _))) (by omega), hX5⟩
    · exact LRep.mod callOk (by decide) (LRep.weak callOk (S' := fun b => b < w.heap.size + 2) hq fun b hb e => by omega) (m5.mono fun b hb e => by omega)
  rintro v0 w4 fr4 ⟨xs0, t0, hv0, l0, p4, k4, z4, hZ4, hX4⟩
  obtain ⟨Av0, cv0, tsv0, hev0, hrv0⟩ := hv0
  have hv0 : LRep callR w4 (fun b => b < w.heap.size + 2) v0 xs0 := ⟨Av0, cv0, tsv0, hev0, hrv0⟩
  subst hev0
  have hone : ∀ u ∈ ([zi a0, (.slice Av0 xs0.length cv0), zi a1, zi a2] : List Value), u.oneCell' = true := thrOk.one (w := w4) (S := fun b => b < w.heap.size + 2) (x := ⟨a0, a1, a2, xs0⟩) ⟨_, rfl, hv0⟩
  refine loadN_row (vs := [zi a0, (.slice Av0 xs0.length cv0), zi a1, zi a2]) (rowB hX4) rfl ?_
  refine And.intro rfl ?_
  refine storeN_all (vs := [zi a0, (.slice Av0 xs0.length cv0), zi a1, zi a2]) hZ4 rfl hone ?_
  intro w9 hb9 m9 s9
  refine loadN_row (vs := [zi a0, (.slice Av0 xs0.length cv0), zi a1, zi a2]) (rowB hb9) rfl ?_
  refine ⟨[zi a0, (.slice Av0 xs0.length cv0), zi a1, zi a2], ⟨a0, a1, a2, xs0⟩, t0, rfl, ?_, reads_thr r0 r1 r2 l0, p.loc p4 m9 (Nat.le_refl _), Mod.trans k4 m9 fun b hb e => by omega⟩
  have hrep : thrR w4 (fun b => b < w.heap.size + 2) [zi a0, (.slice Av0 xs0.length cv0), zi a1, zi a2] ⟨a0, a1, a2, xs0⟩ := ⟨_, rfl, hv0⟩
  exact thrOk.weak (thrOk.mod hrep (m9.mono fun b hb e => by omega)) fun b hb e => by omega

theorem members_thr (h g : Nat) (A : Option Addr) (c : Nat) (bs : List UInt8) (s : RSt) (w : World) (p : Ir w h g A c bs s) (hm : bs.length ≤ 1000000000) :
    Calls Try.prog 44 #[.pointer (some ⟨h, 0, none⟩), .func (.func 45) #[.pointer (some ⟨h, 0, none⟩)] #[]] w fun e w' => ∃ v xs s', e = .returned v ∧ LRep thrR w' (fun b => b < w.heap.size) v xs ∧ Reads bs (list 4 w4 thrF) s xs s' ∧ Ir w' h g A c bs s' ∧ Mod (RS h g) w w' := by
  refine enter ok Try.func44 rfl rfl rfl ?_
  obtain ⟨hh, hg⟩ := p.lt
  refine seq_assign ?_
  refine seq_assign ?_
  refine seq_cut (σ := (Option Addr × Nat) × List (List Value × Thr)) (fun t => [(5, .slice t.1.1 t.2.length t.1.2)]) (fun t w' => ∃ s', LRep thrR w' (fun b => b < w.heap.size) (.slice t.1.1 t.2.length t.1.2) (t.2.map (·.2)) ∧ Reads bs (list 4 w4 thrF) s (t.2.map (·.2)) s' ∧ Ir w' h g A c bs s' ∧ Mod (RS h g) w w') ?_ ?_
  · rintro t w1 fr1 ⟨s', h1, h2, h3, h4⟩
    exact ⟨_, _, s', rfl, h1, h2, h3, h4⟩
  intro K hK
  refine seq_cut (σ := Int) (fun n => [(0, .pointer (some ⟨h, 0, none⟩)), (1, .func (.func 45) #[.pointer (some ⟨h, 0, none⟩)] #[]), (5, .slice none 0 0), (6, zi n)]) (fun n w' => ∃ s1, Reads bs (num 4 false w4) s n s1 ∧ n ≤ 4294967295 ∧ Ir w' h g A c bs s1 ∧ Mod (RS h g) w w') ?_ ?_
  rotate_left
  · intro K2 hK2
    refine Exists.intro (some ⟨g, 0, none⟩) (And.intro (cellB p.blk rfl) ?_)
    refine call_ (get_ok h g A c bs s false 4 w4 w p) ?_
    rintro e w1 ⟨n, s1, rfl, rd1, hb, p1, m1⟩
    refine ⟨_, rfl, ?_⟩
    exact hK2 n _ _ ⟨rfl, rfl, rfl, rfl, trivial⟩ ⟨s1, rd1, (hb (.inr (.inr rfl))).2, p1, m1⟩
  rintro n w1 fr1 ⟨s1, rd1, hn, p1, m1⟩
  refine den_loop (σ := ((Option Addr × Nat) × List (List Value × Thr)) × Int × RSt) (fun t => [(0, .pointer (some ⟨h, 0, none⟩)), (1, .func (.func 45) #[.pointer (some ⟨h, 0, none⟩)] #[]), (5, .slice t.1.1.1 t.1.2.length t.1.1.2), (6, zi t.2.1)])
    (fun m t wl => m = t.2.1.toNat ∧ LInv bs thrF s (t.1.2.map (·.2)) t.2.1.toNat t.2.2 ∧ t.2.1.toNat + t.1.2.length ≤ 4294967296 ∧ t.2.1 ≤ 4294967295 ∧ Ir wl h g A c bs t.2.2 ∧ Mod (RS h g) w wl ∧ wl.ownsRow w.heap.size 48 4 (.slice t.1.1.1 t.1.2.length t.1.1.2) t.1.2.length (cellsOf t.1.2) ∧
      ∀ y ∈ t.1.2, thrR wl (fun b => b < w.heap.size ∨ some b = (Value.slice t.1.1.1 t.1.2.length t.1.1.2).ownBlock) y.1 y.2) n.toNat (((none, 0), []), n, s1)
    ⟨rfl, rfl, rfl, rfl, trivial⟩ ⟨rfl, LInv.start rd1, by simp; omega, hn, p1, m1, ⟨rfl, .inl ⟨rfl, rfl⟩⟩, fun _ h => (by cases h)⟩ ?_
  rintro m ⟨⟨⟨Al, cl⟩, ts⟩, q, s2⟩ wl frl ⟨rfl, hinv, hcnt, hq, pl, kl, own, hts⟩
  dsimp only at hinv hcnt hq pl own hts
  have hown := fun b (e : (Value.slice Al ts.length cl).ownBlock = some b) => own.lt b e
  have klz := kl.size
  have fin : (s2.2 = false → q.toNat = 0) → ∃ s', LRep thrR wl (fun b => b < w.heap.size) (.slice Al ts.length cl) (ts.map (·.2)) ∧ Reads bs (list 4 w4 thrF) s (ts.map (·.2)) s' ∧ Ir wl h g A c bs s' ∧ Mod (RS h g) w wl := fun hz => by
    obtain ⟨A', c', e', h5, h6, row, ho⟩ := own_slice own
    cases e'
    exact ⟨s2, ⟨Al, cl, ts, by rw [List.length_map], rfl, by rw [List.length_map]; exact h5, h6, by rw [List.length_map]; omega, row, fun a ha _ => ⟨(ho a ha).2.1, by have := (ho a ha).1; omega⟩, fun t ht => thrOk.weak (hts t ht) fun b _ hb => .inl hb⟩, hinv.done hz, pl, kl⟩
  refine if_p (fun hlt => ?_) (fun hge => ?_)
  · replace hlt : 0 < q := hlt
    refine Exists.intro s2.2 (And.intro (cellB pl.blk rfl) ?_)
    refine if_ (fun hz => ?_) (fun hz => ?_)
    · replace hz : s2.2 = false := by simpa using hz
      obtain ⟨k, hk⟩ : ∃ k, q.toNat = k + 1 := ⟨q.toNat - 1, by omega⟩
      rw [hk] at hinv
      have hk' : (q - 1).toNat = k := by omega
      refine call_ (thread_ok h g A c bs s2 wl pl hm) ?_
      rintro e w5 ⟨cs, x, s5, he, hx, rd5, p5, m5⟩
      subst he
      have hx0 := hx
      obtain ⟨v, rfl, hv⟩ := hx
      obtain ⟨Av, cv, tv, rfl, _⟩ := hv
      refine ⟨_, rfl, ?_⟩
      have m5z := m5.size
      have hnR : ∀ b, w.heap.size ≤ b → ¬ RS h g b := fun b hb e => by rcases e with e | e <;> omega
      have own5 := own_mod m5 own (fun b hb => hnR b (hown b hb).1)
      have n6 := New.alloc w5 (.cells [zi x.state, .slice Av x.calls.length cv, zi x.on, zi x.count].toArray 48)
      refine append2_ ok rfl rfl rfl rfl (own_new n6 own5) rfl rfl (row_alloc w5 [zi x.state, .slice Av x.calls.length cv, zi x.on, zi x.count] _ _) rfl (thrOk.one hx0) (by decide) rfl (by show (ts.length + 1) * 48 ≤ _; omega) (by omega) (Nat.le_trans (by omega) n6.size) ?_
      intro A7 c7 w7 own7 mod7 st7
      have k57 : Mod (fun b => some b = (Value.slice Al ts.length cl).ownBlock) w5 w7 := Mod.trans n6.mod mod7 fun _ _ e => e
      have hl : (ts ++ [([zi x.state, .slice Av x.calls.length cv, zi x.on, zi x.count], x)]).length = ts.length + 1 := by simp
      have st : ∀ b, some b = (Value.slice A7 (ts.length + 1) c7).ownBlock → some b = (Value.slice Al ts.length cl).ownBlock ∨ w5.heap.size ≤ b := fun b e => by
        rcases st7 b e.symm with e | e
        · exact .inl e.symm
        · exact .inr (Nat.le_trans n6.size e)
      have hnew := mem_step thrOk hts hx0 m5 k57 hh hg klz (fun b e => hown b e.symm) st
      have pow := p5.modN k57 (fun e => by have := hown _ e.symm; omega) (fun e => by have := hown _ e.symm; omega) (fun a ha hn e => by have := p.low a ha hn; have := hown _ e.symm; omega)
      refine ⟨(q - 1).toNat, (((A7, c7), ts ++ [([zi x.state, .slice Av x.calls.length cv, zi x.on, zi x.count], x)]), q - 1, s5), (by dsimp only; omega), ⟨rfl, rfl, (show Value.slice A7 (ts.length + 1) c7 = .slice A7 (ts ++ [([zi x.state, .slice Av x.calls.length cv, zi x.on, zi x.count], x)]).length c7 by rw [hl]), (show zi (IntKind.i64.wrap (q - 1)) = zi (q - 1) by rw [wrap_i64 (by omega) (by omega)]), trivial⟩, rfl, ?_, ?_, by dsimp only; omega, pow, ?_, ?_, ?_⟩
      · dsimp only
        rw [hk', List.map_append]
        exact hinv.step hz rd5
      · dsimp only
        rw [hl]
        omega
      · exact Mod.trans (both kl m5) k57 fun b hb e => by have := hown b e.symm; omega
      · dsimp only
        rw [hl, cellsOf_snoc]
        exact own7
      · dsimp only
        rw [hl]
        exact hnew
    · replace hz : s2.2 = true := by simpa using hz
      exact hK ((Al, cl), ts) _ _ ⟨rfl, trivial⟩ (fin fun h => by rw [hz] at h; cases h)
  · replace hge : ¬ 0 < q := hge
    exact hK ((Al, cl), ts) _ _ ⟨rfl, trivial⟩ (fin fun _ => by omega)
theorem monitor_ok (h g : Nat) (A : Option Addr) (c : Nat) (bs : List UInt8) (s : RSt) (w : World) (p : Ir w h g A c bs s) (hm : bs.length ≤ 1000000000) :
    Calls Try.prog 47 #[.pointer (some ⟨h, 0, none⟩)] w fun e w' => ∃ cs x s', e = .returned (.agg cs.toArray) ∧ monR w' (fun b => b < w.heap.size) cs x ∧ Reads bs monF s x s' ∧ Ir w' h g A c bs s' ∧ Mod (RS h g) w w' := by
  refine enter ok Try.func47 rfl rfl rfl ?_
  obtain ⟨hh, hg⟩ := p.lt
  have nR : ∀ b, w.heap.size ≤ b → ¬ RS h g b := fun b hb e => by rcases e with e | e <;> omega
  refine seq_cut (σ := Unit) (fun _ => [(0, .pointer (some ⟨h, 0, none⟩)), (2, .pointer (some ⟨w.heap.size, 0, none⟩))]) (fun _ w' => New w w' ∧ w'.heap.size = w.heap.size + 1 ∧ w'.heap[w.heap.size]? = some (.cells #[zi 0, zi 0, zi 0] 69 (0, 0))) ?_ ?_
  rotate_left
  · intro K hK
    exact hK () _ _ ⟨rfl, rfl, trivial⟩ ⟨New.alloc w _, by simp, heap_alloc_new w (.cells #[zi 0, zi 0, zi 0] 69)⟩
  rintro _ w1 fr1 ⟨n1, z1, hZ1⟩
  refine seq_cut (σ := Unit) (fun _ => [(0, .pointer (some ⟨h, 0, none⟩)), (2, .pointer (some ⟨w.heap.size, 0, none⟩)), (3, .pointer (some ⟨w.heap.size + 1, 0, none⟩))]) (fun _ w' => New w w' ∧ w'.heap.size = w.heap.size + 2 ∧ w'.heap[w.heap.size]? = some (.cells #[zi 0, zi 0, zi 0] 69 (0, 0)) ∧ w'.heap[w.heap.size + 1]? = some (.cells #[zi 0, zi 0, zi 0] 69 (0, 0))) ?_ ?_
  rotate_left
  · intro K hK
    have n2 := New.alloc w1 (.cells #[zi 0, zi 0, zi 0] 69)
    have hb2 := heap_alloc_new w1 (.cells #[zi 0, zi 0, zi 0] 69)
    rw [z1] at hb2
    exact hK () _ _ ⟨rfl, rfl, (show Value.pointer (some ⟨w1.heap.size, 0, none⟩) = _ by rw [z1]), trivial⟩ ⟨n1.trans n2, by simp [z1], n2.blk hZ1, hb2⟩
  rintro _ w2 fr2 ⟨n2, z2, hZ2, hX2⟩
  -- the numbers
  refine seq_cut (σ := Unit) (fun _ => [(0, .pointer (some ⟨h, 0, none⟩)), (2, .pointer (some ⟨w.heap.size, 0, none⟩)), (3, .pointer (some ⟨w.heap.size + 1, 0, none⟩))]) (fun _ w' => ∃ a0 a1 a2 s1 s2 s3, Reads bs n8 s a0 s1 ∧ Reads bs n8 s1 a1 s2 ∧ Reads bs n8 s2 a2 s3 ∧ Ir w' h g A c bs s3 ∧ Mod (RS h g) w w' ∧ w.heap.size + 2 ≤ w'.heap.size ∧ w'.heap[w.heap.size]? = some (.cells #[zi 0, zi 0, zi 0] 69 (0, 0)) ∧ w'.heap[w.heap.size + 1]? = some (.cells #[zi a0, zi a1, zi a2] 69 (0, 0))) ?_ ?_
  rotate_left
  · intro K hK
    refine seq_cut (σ := Unit) (fun _ => [(0, .pointer (some ⟨h, 0, none⟩)), (2, .pointer (some ⟨w.heap.size, 0, none⟩)), (3, .pointer (some ⟨w.heap.size + 1, 0, none⟩)), (9, .slice (some ⟨w.heap.size + 2, 0, none⟩) 3 3), (10, .int .i64 ((3 : Nat) : Int)), (11, .int .i64 0)]) (fun _ w' => New w w' ∧ w.heap.size + 2 ≤ w'.heap.size ∧ w'.heap[w.heap.size]? = some (.cells #[zi 0, zi 0, zi 0] 69 (0, 0)) ∧ w'.heap[w.heap.size + 1]? = some (.cells #[zi 0, zi 0, zi 0] 69 (0, 0)) ∧ w'.heap[w.heap.size + 2]? = some (.cells #[.pointer (some ((⟨w.heap.size + 1, 0, none⟩ : Addr).add 0)), .pointer (some ((⟨w.heap.size + 1, 0, none⟩ : Addr).add 1)), .pointer (some ((⟨w.heap.size + 1, 0, none⟩ : Addr).add 2))] 85 (0, 0))) ?_ ?_
    rotate_left
    · intro K2 hK2
      have n3 := New.alloc w2 (.cells #[.pointer (some ((⟨w.heap.size + 1, 0, none⟩ : Addr).add 0)), .pointer (some ((⟨w.heap.size + 1, 0, none⟩ : Addr).add 1)), .pointer (some ((⟨w.heap.size + 1, 0, none⟩ : Addr).add 2))] 85)
      have hb3 := heap_alloc_new w2 (.cells #[.pointer (some ((⟨w.heap.size + 1, 0, none⟩ : Addr).add 0)), .pointer (some ((⟨w.heap.size + 1, 0, none⟩ : Addr).add 1)), .pointer (some ((⟨w.heap.size + 1, 0, none⟩ : Addr).add 2))] 85)
      rw [z2] at hb3
      have z3 : w.heap.size + 2 ≤ (w2.alloc (.cells #[.pointer (some ((⟨w.heap.size + 1, 0, none⟩ : Addr).add 0)), .pointer (some ((⟨w.heap.size + 1, 0, none⟩ : Addr).add 1)), .pointer (some ((⟨w.heap.size + 1, 0, none⟩ : Addr).add 2))] 85)).heap.size := by simp [z2]
      exact hK2 () _ _ ⟨rfl, rfl, rfl, (show Value.slice (some ⟨w2.heap.size, 0, none⟩) 3 3 = _ by rw [z2]), rfl, rfl, trivial⟩ ⟨n2.trans n3, z3, n3.blk hZ2, n3.blk hX2, hb3⟩
    rintro _ w3 fr3 ⟨n3, z3, hZ3, hX3, hP3⟩
    refine den_loop (σ := List Int × RSt) (fun t => [(0, .pointer (some ⟨h, 0, none⟩)), (2, .pointer (some ⟨w.heap.size, 0, none⟩)), (3, .pointer (some ⟨w.heap.size + 1, 0, none⟩)), (9, .slice (some ⟨w.heap.size + 2, 0, none⟩) 3 3), (10, .int .i64 ((3 : Nat) : Int)), (11, .int .i64 (t.1.length : Int))])
      (fun m t wl => m + t.1.length = 3 ∧ Nums bs s t.1 t.2 ∧ Ir wl h g A c bs t.2 ∧ Mod (RS h g) w wl ∧ w.heap.size + 2 ≤ wl.heap.size ∧ wl.heap[w.heap.size]? = some (.cells #[zi 0, zi 0, zi 0] 69 (0, 0)) ∧ wl.heap[w.heap.size + 1]? = some (.cells #[zi (t.1.getD 0 0), zi (t.1.getD 1 0), zi (t.1.getD 2 0)] 69 (0, 0)) ∧ wl.heap[w.heap.size + 2]? = some (.cells #[.pointer (some ((⟨w.heap.size + 1, 0, none⟩ : Addr).add 0)), .pointer (some ((⟨w.heap.size + 1, 0, none⟩ : Addr).add 1)), .pointer (some ((⟨w.heap.size + 1, 0, none⟩ : Addr).add 2))] 85 (0, 0))) 3 ([], s)
      ⟨rfl, rfl, rfl, rfl, rfl, rfl, trivial⟩ ⟨rfl, rfl, p.new n3, n3.mod, z3, hZ3, hX3, hP3⟩ ?_
    rintro m ⟨ns, s1⟩ wl frl ⟨hlen, hnum, pl, kl, zl, hZl, hXl, hPl⟩
    dsimp only at hlen hnum pl hXl
    rcases ns with _ | ⟨a0, _ | ⟨a1, _ | ⟨a2, _ | ⟨x, r⟩⟩⟩⟩
    · refine And.intro (by simp) (And.intro (by simp) ?_)
      refine Exists.intro (some ((⟨w.heap.size + 1, 0, none⟩ : Addr).add 0)) (And.intro (cellB hPl rfl) ?_)
      refine call_ (number_ok h g A c bs s1 wl pl) ?_
      rintro e w4 ⟨q, s4, rfl, rd4, p4, m4⟩
      refine ⟨_, rfl, ?_⟩
      have m4z := m4.size
      have hX4 := m4.blk hXl (nR _ (by omega))
      refine And.intro ⟨_, cellB hX4 rfl⟩ (And.intro (fzB hX4 _) (force_ ?_))
      refine stK hX4 (show (0 : Nat) < 3 by decide) ?_
      intro w5 hX5 m5 s5
      exact ⟨m - 1, ([] ++ [q], s4), (by simp at hlen; omega), ⟨rfl, rfl, rfl, rfl, rfl, by rfl, trivial⟩, (by simp at hlen ⊢; omega), hnum.snoc rd4, p.loc p4 m5 (by omega), Mod.trans (both kl m4) m5 fun b hb e => by omega, by omega, m5.blk (m4.blk hZl (nR _ (Nat.le_refl _))) (by omega), hX5, m5.blk (m4.blk hPl (nR _ (by omega))) (by omega)⟩
    · refine And.intro (by simp) (And.intro (by simp) ?_)
      refine Exists.intro (some ((⟨w.heap.size + 1, 0, none⟩ : Addr).add 1)) (And.intro (cellB hPl rfl) ?_)
      refine call_ (number_ok h g A c bs s1 wl pl) ?_
      rintro e w4 ⟨q, s4, rfl, rd4, p4, m4⟩
      refine ⟨_, rfl, ?_⟩
      have m4z := m4.size
      have hX4 := m4.blk hXl (nR _ (by omega))
      refine And.intro ⟨_, cellB hX4 rfl⟩ (And.intro (fzB hX4 _) (force_ ?_))
      refine stK hX4 (show (1 : Nat) < 3 by decide) ?_
      intro w5 hX5 m5 s5
      exact ⟨m - 1, ([a0] ++ [q], s4), (by simp at hlen; omega), ⟨rfl, rfl, rfl, rfl, rfl, by rfl, trivial⟩, (by simp at hlen ⊢; omega), hnum.snoc rd4, p.loc p4 m5 (by omega), Mod.trans (both kl m4) m5 fun b hb e => by omega, by omega, m5.blk (m4.blk hZl (nR _ (Nat.le_refl _))) (by omega), hX5, m5.blk (m4.blk hPl (nR _ (by omega))) (by omega)⟩
    · refine And.intro (by simp) (And.intro (by simp) ?_)
      refine Exists.intro (some ((⟨w.heap.size + 1, 0, none⟩ : Addr).add 2)) (And.intro (cellB hPl rfl) ?_)
      refine call_ (number_ok h g A c bs s1 wl pl) ?_
      rintro e w4 ⟨q, s4, rfl, rd4, p4, m4⟩
      refine ⟨_, rfl, ?_⟩
      have m4z := m4.size
      have hX4 := m4.blk hXl (nR _ (by omega))
      refine And.intro ⟨_, cellB hX4 rfl⟩ (And.intro (fzB hX4 _) (force_ ?_))
      refine stK hX4 (show (2 : Nat) < 3 by decide) ?_
      intro w5 hX5 m5 s5
      exact ⟨m - 1, ([a0, a1] ++ [q], s4), (by simp at hlen; omega), ⟨rfl, rfl, rfl, rfl, rfl, by rfl, trivial⟩, (by simp at hlen ⊢; omega), hnum.snoc rd4, p.loc p4 m5 (by omega), Mod.trans (both kl m4) m5 fun b hb e => by omega, by omega, m5.blk (m4.blk hZl (nR _ (Nat.le_refl _))) (by omega), hX5, m5.blk (m4.blk hPl (nR _ (by omega))) (by omega)⟩
    · obtain ⟨s1, r0, s2, r1, s3, r2, rfl⟩ := hnum
      exact hK () _ _ ⟨rfl, rfl, rfl, trivial⟩ ⟨a0, a1, a2, s1, s2, s3, r0, r1, r2, pl, kl, zl, hZl, hXl⟩
    · exfalso
      simp at hlen
      omega
  rintro _ w3 fr3 ⟨a0, a1, a2, s1, s2, s3, r0, r1, r2, p3, k3, z3, hZ3, hX3⟩
  have hone : ∀ u ∈ ([zi a0, zi a1, zi a2] : List Value), u.oneCell' = true := monOk.one (w := w3) (S := fun b => b < w.heap.size + 2) (x := ⟨a0, a1, a2⟩) rfl
  refine loadN_row (vs := [zi a0, zi a1, zi a2]) (rowB hX3) rfl ?_
  refine And.intro rfl ?_
  refine storeN_all (vs := [zi a0, zi a1, zi a2]) hZ3 rfl hone ?_
  intro w9 hb9 m9 s9
  refine loadN_row (vs := [zi a0, zi a1, zi a2]) (rowB hb9) rfl ?_
  refine ⟨[zi a0, zi a1, zi a2], ⟨a0, a1, a2⟩, s3, rfl, ?_, reads_mon r0 r1 r2, p.loc p3 m9 (Nat.le_refl _), Mod.trans k3 m9 fun b hb e => by omega⟩
  have hrep : monR w3 (fun b => b < w.heap.size + 2) [zi a0, zi a1, zi a2] ⟨a0, a1, a2⟩ := rfl
  exact monOk.weak (monOk.mod hrep (m9.mono fun b hb e => by omega)) fun b hb e => by omega

theorem members_mon (h g : Nat) (A : Option Addr) (c : Nat) (bs : List UInt8) (s : RSt) (w : World) (p : Ir w h g A c bs s) (hm : bs.length ≤ 1000000000) :
    Calls Try.prog 46 #[.pointer (some ⟨h, 0, none⟩), .func (.func 47) #[.pointer (some ⟨h, 0, none⟩)] #[]] w fun e w' => ∃ v xs s', e = .returned v ∧ LRep monR w' (fun b => b < w.heap.size) v xs ∧ Reads bs (list 4 w4 monF) s xs s' ∧ Ir w' h g A c bs s' ∧ Mod (RS h g) w w' := by
  refine enter ok Try.func46 rfl rfl rfl ?_
  obtain ⟨hh, hg⟩ := p.lt
  refine seq_assign ?_
  refine seq_assign ?_
  refine seq_cut (σ := (Option Addr × Nat) × List (List Value × Mon)) (fun t => [(5, .slice t.1.1 t.2.length t.1.2)]) (fun t w' => ∃ s', LRep monR w' (fun b => b < w.heap.size) (.slice t.1.1 t.2.length t.1.2) (t.2.map (·.2)) ∧ Reads bs (list 4 w4 monF) s (t.2.map (·.2)) s' ∧ Ir w' h g A c bs s' ∧ Mod (RS h g) w w') ?_ ?_
  · rintro t w1 fr1 ⟨s', h1, h2, h3, h4⟩
    exact ⟨_, _, s', rfl, h1, h2, h3, h4⟩
  intro K hK
  refine seq_cut (σ := Int) (fun n => [(0, .pointer (some ⟨h, 0, none⟩)), (1, .func (.func 47) #[.pointer (some ⟨h, 0, none⟩)] #[]), (5, .slice none 0 0), (6, zi n)]) (fun n w' => ∃ s1, Reads bs (num 4 false w4) s n s1 ∧ n ≤ 4294967295 ∧ Ir w' h g A c bs s1 ∧ Mod (RS h g) w w') ?_ ?_
  rotate_left
  · intro K2 hK2
    refine Exists.intro (some ⟨g, 0, none⟩) (And.intro (cellB p.blk rfl) ?_)
    refine call_ (get_ok h g A c bs s false 4 w4 w p) ?_
    rintro e w1 ⟨n, s1, rfl, rd1, hb, p1, m1⟩
    refine ⟨_, rfl, ?_⟩
    exact hK2 n _ _ ⟨rfl, rfl, rfl, rfl, trivial⟩ ⟨s1, rd1, (hb (.inr (.inr rfl))).2, p1, m1⟩
  rintro n w1 fr1 ⟨s1, rd1, hn, p1, m1⟩
  refine den_loop (σ := ((Option Addr × Nat) × List (List Value × Mon)) × Int × RSt) (fun t => [(0, .pointer (some ⟨h, 0, none⟩)), (1, .func (.func 47) #[.pointer (some ⟨h, 0, none⟩)] #[]), (5, .slice t.1.1.1 t.1.2.length t.1.1.2), (6, zi t.2.1)])
    (fun m t wl => m = t.2.1.toNat ∧ LInv bs monF s (t.1.2.map (·.2)) t.2.1.toNat t.2.2 ∧ t.2.1.toNat + t.1.2.length ≤ 4294967296 ∧ t.2.1 ≤ 4294967295 ∧ Ir wl h g A c bs t.2.2 ∧ Mod (RS h g) w wl ∧ wl.ownsRow w.heap.size 69 3 (.slice t.1.1.1 t.1.2.length t.1.1.2) t.1.2.length (cellsOf t.1.2) ∧
      ∀ y ∈ t.1.2, monR wl (fun b => b < w.heap.size ∨ some b = (Value.slice t.1.1.1 t.1.2.length t.1.1.2).ownBlock) y.1 y.2) n.toNat (((none, 0), []), n, s1)
    ⟨rfl, rfl, rfl, rfl, trivial⟩ ⟨rfl, LInv.start rd1, by simp; omega, hn, p1, m1, ⟨rfl, .inl ⟨rfl, rfl⟩⟩, fun _ h => (by cases h)⟩ ?_
  rintro m ⟨⟨⟨Al, cl⟩, ts⟩, q, s2⟩ wl frl ⟨rfl, hinv, hcnt, hq, pl, kl, own, hts⟩
  dsimp only at hinv hcnt hq pl own hts
  have hown := fun b (e : (Value.slice Al ts.length cl).ownBlock = some b) => own.lt b e
  have klz := kl.size
  have fin : (s2.2 = false → q.toNat = 0) → ∃ s', LRep monR wl (fun b => b < w.heap.size) (.slice Al ts.length cl) (ts.map (·.2)) ∧ Reads bs (list 4 w4 monF) s (ts.map (·.2)) s' ∧ Ir wl h g A c bs s' ∧ Mod (RS h g) w wl := fun hz => by
    obtain ⟨A', c', e', h5, h6, row, ho⟩ := own_slice own
    cases e'
    exact ⟨s2, ⟨Al, cl, ts, by rw [List.length_map], rfl, by rw [List.length_map]; exact h5, h6, by rw [List.length_map]; omega, row, fun a ha _ => ⟨(ho a ha).2.1, by have := (ho a ha).1; omega⟩, fun t ht => monOk.weak (hts t ht) fun b _ hb => .inl hb⟩, hinv.done hz, pl, kl⟩
  refine if_p (fun hlt => ?_) (fun hge => ?_)
  · replace hlt : 0 < q := hlt
    refine Exists.intro s2.2 (And.intro (cellB pl.blk rfl) ?_)
    refine if_ (fun hz => ?_) (fun hz => ?_)
    · replace hz : s2.2 = false := by simpa using hz
      obtain ⟨k, hk⟩ : ∃ k, q.toNat = k + 1 := ⟨q.toNat - 1, by omega⟩
      rw [hk] at hinv
      have hk' : (q - 1).toNat = k := by omega
      refine call_ (monitor_ok h g A c bs s2 wl pl hm) ?_
      rintro e w5 ⟨cs, x, s5, he, hx, rd5, p5, m5⟩
      subst he
      have hx0 := hx
      obtain rfl := hx
      refine ⟨_, rfl, ?_⟩
      have m5z := m5.size
      have hnR : ∀ b, w.heap.size ≤ b → ¬ RS h g b := fun b hb e => by rcases e with e | e <;> omega
      have own5 := own_mod m5 own (fun b hb => hnR b (hown b hb).1)
      have n6 := New.alloc w5 (.cells [zi x.ob, zi x.owner, zi x.count].toArray 69)
      refine append2_ ok rfl rfl rfl rfl (own_new n6 own5) rfl rfl (row_alloc w5 [zi x.ob, zi x.owner, zi x.count] _ _) rfl (monOk.one hx0) (by decide) rfl (by show (ts.length + 1) * 24 ≤ _; omega) (by omega) (Nat.le_trans (by omega) n6.size) ?_
      intro A7 c7 w7 own7 mod7 st7
      have k57 : Mod (fun b => some b = (Value.slice Al ts.length cl).ownBlock) w5 w7 := Mod.trans n6.mod mod7 fun _ _ e => e
      have hl : (ts ++ [([zi x.ob, zi x.owner, zi x.count], x)]).length = ts.length + 1 := by simp
      have st : ∀ b, some b = (Value.slice A7 (ts.length + 1) c7).ownBlock → some b = (Value.slice Al ts.length cl).ownBlock ∨ w5.heap.size ≤ b := fun b e => by
        rcases st7 b e.symm with e | e
        · exact .inl e.symm
        · exact .inr (Nat.le_trans n6.size e)
      have hnew := mem_step monOk hts hx0 m5 k57 hh hg klz (fun b e => hown b e.symm) st
      have pow := p5.modN k57 (fun e => by have := hown _ e.symm; omega) (fun e => by have := hown _ e.symm; omega) (fun a ha hn e => by have := p.low a ha hn; have := hown _ e.symm; omega)
      refine ⟨(q - 1).toNat, (((A7, c7), ts ++ [([zi x.ob, zi x.owner, zi x.count], x)]), q - 1, s5), (by dsimp only; omega), ⟨rfl, rfl, (show Value.slice A7 (ts.length + 1) c7 = .slice A7 (ts ++ [([zi x.ob, zi x.owner, zi x.count], x)]).length c7 by rw [hl]), (show zi (IntKind.i64.wrap (q - 1)) = zi (q - 1) by rw [wrap_i64 (by omega) (by omega)]), trivial⟩, rfl, ?_, ?_, by dsimp only; omega, pow, ?_, ?_, ?_⟩
      · dsimp only
        rw [hk', List.map_append]
        exact hinv.step hz rd5
      · dsimp only
        rw [hl]
        omega
      · exact Mod.trans (both kl m5) k57 fun b hb e => by have := hown b e.symm; omega
      · dsimp only
        rw [hl, cellsOf_snoc]
        exact own7
      · dsimp only
        rw [hl]
        exact hnew
    · replace hz : s2.2 = true := by simpa using hz
      exact hK ((Al, cl), ts) _ _ ⟨rfl, trivial⟩ (fin fun h => by rw [hz] at h; cases h)
  · replace hge : ¬ 0 < q := hge
    exact hK ((Al, cl), ts) _ _ ⟨rfl, trivial⟩ (fin fun _ => by omega)
end Go.Proofs.Yteanhakkceancaa.Image

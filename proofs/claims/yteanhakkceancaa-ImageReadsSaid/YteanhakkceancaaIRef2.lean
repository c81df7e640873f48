/- The document's answer for machines, walked: a machine read. Printed by genref.py. -/
import Derived.Test.YteanhakkceancaaIRef1
namespace Go.Proofs.Yteanhakkceancaa.Image
open Go Go.Proofs.Yteanhakkceancaa Go.Proofs.Yteanhakkceancaa.Eng Go.Proofs Go.Proofs.Yteanhakkceancaa.Word Go.Proofs.Yteanhakkceancaa.Fmt
open Go.Proofs.Yteanhakkceancaa.Pool (RS both own_low)
set_option maxRecDepth 10000

theorem rParse_ok (A : Option Addr) (n c : Nat) (bs : List UInt8) (w : World) (hn : n = bs.length) (hr : Row w A (bvs bs)) (hc : bs.length ≤ c) (ht : c ≤ 9223372036854775807) (hm : bs.length ≤ 1000000000) :
    Calls Try.prog 14 #[.slice A n c] w (PRes w bs) := by
  subst hn
  refine enter ok Try.func14 rfl rfl rfl ?_
  have hlow : ∀ a, A = some a → bs ≠ [] → a.block < w.heap.size := Word.row_low hr
  refine seq_cut (σ := Unit) (fun _ => [(0, .slice A bs.length c), (2, .pointer (some ⟨w.heap.size, 0, none⟩))]) (fun _ w' => New w w' ∧ w'.heap.size = w.heap.size + 1 ∧ w'.heap[w.heap.size]? = some (.cells #[zi 0, (.slice none 0 0), (.slice none 0 0), (.slice none 0 0), (.slice none 0 0), zi 0, (.slice none 0 0), (.slice none 0 0), zi 0, zi 0] 28 (0, 0))) ?_ ?_
  rotate_left
  · intro K hK
    exact hK () _ _ ⟨rfl, rfl, trivial⟩ ⟨New.alloc w _, by simp, heap_alloc_new w (.cells #[zi 0, (.slice none 0 0), (.slice none 0 0), (.slice none 0 0), (.slice none 0 0), zi 0, (.slice none 0 0), (.slice none 0 0), zi 0, zi 0] 28)⟩
  rintro _ w1 fr1 ⟨n1, z1, hZ1⟩
  refine seq_cut (σ := Unit) (fun _ => [(0, .slice A bs.length c), (2, .pointer (some ⟨w.heap.size, 0, none⟩)), (4, .pointer (some ⟨w.heap.size + 1, 0, none⟩))]) (fun _ w' => Jr w' (w.heap.size + 1) A c bs (0, false) ∧ New w w' ∧ w'.heap.size = w.heap.size + 2 ∧ w'.heap[w.heap.size]? = some (.cells #[zi 0, (.slice none 0 0), (.slice none 0 0), (.slice none 0 0), (.slice none 0 0), zi 0, (.slice none 0 0), (.slice none 0 0), zi 0, zi 0] 28 (0, 0))) ?_ ?_
  rotate_left
  · intro K hK
    have n2 := New.alloc w1 (.cells #[.slice A bs.length c, .int .i64 0, .bool false] 100)
    have hb2 := heap_alloc_new w1 (.cells #[.slice A bs.length c, .int .i64 0, .bool false] 100)
    rw [z1] at hb2
    exact hK () _ _ ⟨rfl, rfl, (show Value.pointer (some ⟨w1.heap.size, 0, none⟩) = _ by rw [z1]), trivial⟩ ⟨⟨hb2, hr.new (n1.trans n2), fun hn a ha => by have := hlow a ha hn; omega, Nat.zero_le _, hc, ht⟩, n1.trans n2, by simp [z1], n2.blk hZ1⟩
  rintro _ w2 fr2 ⟨p2, n2, z2, hZ2⟩
  obtain ⟨g, hg⟩ : ∃ g, g = w.heap.size + 1 := ⟨_, rfl⟩
  rw [← hg] at p2 ⊢
  refine seq_cut (σ := Nat) (fun X => [(0, .slice A bs.length c), (2, .pointer (some ⟨w.heap.size, 0, none⟩)), (4, .pointer (some ⟨g, 0, none⟩)), (5, .pointer (some ⟨X, 0, none⟩))]) (fun X w' => ∃ (va0 : Int) (s' : RSt), Reads bs n8 ((0, false) : RSt) va0 s' ∧ Jr w' g A c bs s' ∧ Mod (fun b => b = g) w2 w' ∧ w2.heap.size ≤ X ∧ X < w'.heap.size ∧ w'.heap[X]? = some (.cells #[zi va0, (.slice none 0 0), (.slice none 0 0), (.slice none 0 0), (.slice none 0 0), zi 0, (.slice none 0 0), (.slice none 0 0), zi 0, zi 0] 28 (0, 0))) ?_ ?_
  rotate_left
  · intro Kaz hKaz
    refine call_ (rnumber_ok g A c bs ((0, false) : RSt) w2 p2) ?_
    rintro e wa ⟨va0, sa, rfl, rda, pa, ma⟩
    refine ⟨_, rfl, ?_⟩
    refine And.intro rfl ?_
    refine storeNew (vs := [zi va0, (.slice none 0 0), (.slice none 0 0), (.slice none 0 0), (.slice none 0 0), zi 0, (.slice none 0 0), (.slice none 0 0), zi 0, zi 0]) (arr := #[zi 0, (.slice none 0 0), (.slice none 0 0), (.slice none 0 0), (.slice none 0 0), zi 0, (.slice none 0 0), (.slice none 0 0), zi 0, zi 0]) rfl (ones rfl) ?_
    intro wb hXb nb sb
    have maz := ma.size
    exact hKaz wa.heap.size _ _ ⟨rfl, rfl, rfl, rfl, trivial⟩ ⟨va0, sa, rda, pa.new nb, Mod.new ma nb, maz, by omega, hXb⟩
  rintro Xa ea0 fra0 ⟨va0, ta0, ra0, pa0, ka0, hXa, hXla, ba0⟩
  have hgXa : g < Xa := Nat.lt_of_lt_of_le p2.lt hXa
  have hAXa : bs ≠ [] → ∀ a, A = some a → ¬ a.block = Xa := fun hn a ha e => by have := p2.low hn a ha; omega
  refine seq_cut (σ := Unit) (fun _ => [(0, .slice A bs.length c), (2, .pointer (some ⟨w.heap.size, 0, none⟩)), (4, .pointer (some ⟨g, 0, none⟩)), (5, .pointer (some ⟨Xa, 0, none⟩))]) (fun _ w' => ∃ (va1 : Int) (s' : RSt), Reads bs n8 ta0 va1 s' ∧ Jr w' g A c bs s' ∧ Mod (fun b => b = g ∨ b = Xa) ea0 w' ∧ w'.heap[Xa]? = some (.cells #[zi va0, (.slice none 0 0), (.slice none 0 0), (.slice none 0 0), (.slice none 0 0), zi va1, (.slice none 0 0), (.slice none 0 0), zi 0, zi 0] 28 (0, 0))) ?_ ?_
  rotate_left
  · intro Kaz hKaz
    refine call_ (rnumber_ok g A c bs ta0 ea0 pa0) ?_
    rintro e wa ⟨va1, sa, rfl, rda, pa, ma⟩
    refine ⟨_, rfl, ?_⟩
    have hXa := ma.blk ba0 (Nat.ne_of_gt hgXa)
    refine And.intro ⟨_, cellB hXa rfl⟩ (And.intro (fzB hXa _) (force_ ?_))
    refine stK hXa (show (5 : Nat) < 10 by decide) ?_
    intro wb hXb mb sb
    exact hKaz () _ _ ⟨rfl, rfl, rfl, rfl, trivial⟩ ⟨va1, sa, rda, pa.modN mb (Nat.ne_of_lt hgXa) hAXa, both (ma.mono fun _ _ e => .inl e) (mb.mono fun _ _ e => .inr e), hXb⟩
  rintro _ ea1 fra1 ⟨va1, ta1, ra1, pa1, ma1, ba1⟩
  have ka1 : Mod (fun b => b = g) w2 ea1 := Mod.trans ka0 ma1 fun b hb e => by omega
  refine seq_cut (σ := Unit) (fun _ => [(0, .slice A bs.length c), (2, .pointer (some ⟨w.heap.size, 0, none⟩)), (4, .pointer (some ⟨g, 0, none⟩)), (5, .pointer (some ⟨Xa, 0, none⟩))]) (fun _ w' => ∃ (va2 : Int) (s' : RSt), Reads bs n8 ta1 va2 s' ∧ Jr w' g A c bs s' ∧ Mod (fun b => b = g ∨ b = Xa) ea1 w' ∧ w'.heap[Xa]? = some (.cells #[zi va0, (.slice none 0 0), (.slice none 0 0), (.slice none 0 0), (.slice none 0 0), zi va1, (.slice none 0 0), (.slice none 0 0), zi va2, zi 0] 28 (0, 0))) ?_ ?_
  rotate_left
  · intro Kaz hKaz
    refine call_ (rnumber_ok g A c bs ta1 ea1 pa1) ?_
    rintro e wa ⟨va2, sa, rfl, rda, pa, ma⟩
    refine ⟨_, rfl, ?_⟩
    have hXa := ma.blk ba1 (Nat.ne_of_gt hgXa)
    refine And.intro ⟨_, cellB hXa rfl⟩ (And.intro (fzB hXa _) (force_ ?_))
    refine stK hXa (show (8 : Nat) < 10 by decide) ?_
    intro wb hXb mb sb
    exact hKaz () _ _ ⟨rfl, rfl, rfl, rfl, trivial⟩ ⟨va2, sa, rda, pa.modN mb (Nat.ne_of_lt hgXa) hAXa, both (ma.mono fun _ _ e => .inl e) (mb.mono fun _ _ e => .inr e), hXb⟩
  rintro _ ea2 fra2 ⟨va2, ta2, ra2, pa2, ma2, ba2⟩
  have ka2 : Mod (fun b => b = g) w2 ea2 := Mod.trans ka1 ma2 fun b hb e => by omega
  refine seq_cut (σ := Unit) (fun _ => [(0, .slice A bs.length c), (2, .pointer (some ⟨w.heap.size, 0, none⟩)), (4, .pointer (some ⟨g, 0, none⟩)), (5, .pointer (some ⟨Xa, 0, none⟩))]) (fun _ w' => ∃ (va3 : Int) (s' : RSt), Reads bs n8 ta2 va3 s' ∧ Jr w' g A c bs s' ∧ Mod (fun b => b = g ∨ b = Xa) ea2 w' ∧ w'.heap[Xa]? = some (.cells #[zi va0, (.slice none 0 0), (.slice none 0 0), (.slice none 0 0), (.slice none 0 0), zi va1, (.slice none 0 0), (.slice none 0 0), zi va2, zi va3] 28 (0, 0))) ?_ ?_
  rotate_left
  · intro Kaz hKaz
    refine call_ (rnumber_ok g A c bs ta2 ea2 pa2) ?_
    rintro e wa ⟨va3, sa, rfl, rda, pa, ma⟩
    refine ⟨_, rfl, ?_⟩
    have hXa := ma.blk ba2 (Nat.ne_of_gt hgXa)
    refine And.intro ⟨_, cellB hXa rfl⟩ (And.intro (fzB hXa _) (force_ ?_))
    refine stK hXa (show (9 : Nat) < 10 by decide) ?_
    intro wb hXb mb sb
    exact hKaz () _ _ ⟨rfl, rfl, rfl, rfl, trivial⟩ ⟨va3, sa, rda, pa.modN mb (Nat.ne_of_lt hgXa) hAXa, both (ma.mono fun _ _ e => .inl e) (mb.mono fun _ _ e => .inr e), hXb⟩
  rintro _ ea3 fra3 ⟨va3, ta3, ra3, pa3, ma3, ba3⟩
  have ka3 : Mod (fun b => b = g) w2 ea3 := Mod.trans ka2 ma3 fun b hb e => by omega
  refine seq_cut (σ := Value) (fun _ => [(0, .slice A bs.length c), (2, .pointer (some ⟨w.heap.size, 0, none⟩)), (4, .pointer (some ⟨g, 0, none⟩)), (5, .pointer (some ⟨Xa, 0, none⟩))]) (fun v w' => ∃ xs s', LRep intR w' (fun b => b < Xa + 1) v xs ∧ Reads bs (list 4 Image.w4 n8) ta3 xs s' ∧ Jr w' g A c bs s' ∧ Mod (fun b => b = g ∨ b = Xa) ea3 w' ∧ w'.heap[Xa]? = some (.cells #[zi va0, (.slice none 0 0), (.slice none 0 0), (.slice none 0 0), (.slice none 0 0), zi va1, v, (.slice none 0 0), zi va2, zi va3] 28 (0, 0))) ?_ ?_
  rotate_left
  · intro Kaz hKaz
    refine call_ (rints_ok g A c bs ta3 ea3 pa3 hm) ?_
    rintro e wa ⟨v, xs, sa, rfl, hv, rda, pa, ma⟩
    have hq := hv
    obtain ⟨A7, c7, ts7, rfl, _⟩ := hv
    refine ⟨_, rfl, ?_⟩
    have maz := ma.size
    have hXz := (Array.getElem?_eq_some_iff.1 ba3).1
    have hXa := ma.blk ba3 (Nat.ne_of_gt hgXa)
    refine And.intro ⟨_, cellB hXa rfl⟩ (And.intro (fzB hXa _) (force_ ?_))
    refine stK hXa (show (6 : Nat) < 10 by decide) ?_
    intro wb hXb mb sb
    exact hKaz _ _ _ ⟨rfl, rfl, rfl, rfl, trivial⟩ ⟨xs, sa, LRep.mod intOk (by decide) (LRep.weak intOk (S' := fun b => b < Xa + 1) hq fun b hb e => by omega) (mb.mono fun b hb e => by omega), rda, pa.modN mb (Nat.ne_of_lt hgXa) hAXa, both (ma.mono fun _ _ e => .inl e) (mb.mono fun _ _ e => .inr e), hXb⟩
  rintro va4 ea4 fra4 ⟨xa4, ta4, ha4, ra4, pa4, ma4, ba4⟩
  have ka4 : Mod (fun b => b = g) w2 ea4 := Mod.trans ka3 ma4 fun b hb e => by omega
  refine seq_cut (σ := Value) (fun _ => [(0, .slice A bs.length c), (2, .pointer (some ⟨w.heap.size, 0, none⟩)), (4, .pointer (some ⟨g, 0, none⟩)), (5, .pointer (some ⟨Xa, 0, none⟩))]) (fun v w' => ∃ xs s', LRep intR w' (fun b => b < Xa + 1) v xs ∧ Reads bs (list 4 Image.w4 n8) ta4 xs s' ∧ Jr w' g A c bs s' ∧ Mod (fun b => b = g ∨ b = Xa) ea4 w' ∧ w'.heap[Xa]? = some (.cells #[zi va0, (.slice none 0 0), (.slice none 0 0), (.slice none 0 0), (.slice none 0 0), zi va1, va4, v, zi va2, zi va3] 28 (0, 0))) ?_ ?_
  rotate_left
  · intro Kaz hKaz
    refine call_ (rints_ok g A c bs ta4 ea4 pa4 hm) ?_
    rintro e wa ⟨v, xs, sa, rfl, hv, rda, pa, ma⟩
    have hq := hv
    obtain ⟨A7, c7, ts7, rfl, _⟩ := hv
    refine ⟨_, rfl, ?_⟩
    have maz := ma.size
    have hXz := (Array.getElem?_eq_some_iff.1 ba4).1
    have hXa := ma.blk ba4 (Nat.ne_of_gt hgXa)
    refine And.intro ⟨_, cellB hXa rfl⟩ (And.intro (fzB hXa _) (force_ ?_))
    refine stK hXa (show (7 : Nat) < 10 by decide) ?_
    intro wb hXb mb sb
    exact hKaz _ _ _ ⟨rfl, rfl, rfl, rfl, trivial⟩ ⟨xs, sa, LRep.mod intOk (by decide) (LRep.weak intOk (S' := fun b => b < Xa + 1) hq fun b hb e => by omega) (mb.mono fun b hb e => by omega), rda, pa.modN mb (Nat.ne_of_lt hgXa) hAXa, both (ma.mono fun _ _ e => .inl e) (mb.mono fun _ _ e => .inr e), hXb⟩
  rintro va5 ea5 fra5 ⟨xa5, ta5, ha5, ra5, pa5, ma5, ba5⟩
  have ka5 : Mod (fun b => b = g) w2 ea5 := Mod.trans ka4 ma5 fun b hb e => by omega
  replace ha4 := LRep.mod intOk (by decide) ha4 (ma5.mono fun b hb e => by omega)
  refine seq_cut (σ := Value) (fun _ => [(0, .slice A bs.length c), (2, .pointer (some ⟨w.heap.size, 0, none⟩)), (4, .pointer (some ⟨g, 0, none⟩)), (5, .pointer (some ⟨Xa, 0, none⟩))]) (fun v w' => ∃ xs s', LRep valR w' (fun b => b < Xa + 1) v xs ∧ Reads bs (list 4 Image.w4 valF) ta5 xs s' ∧ Jr w' g A c bs s' ∧ Mod (fun b => b = g ∨ b = Xa) ea5 w' ∧ w'.heap[Xa]? = some (.cells #[zi va0, (.slice none 0 0), v, (.slice none 0 0), (.slice none 0 0), zi va1, va4, va5, zi va2, zi va3] 28 (0, 0))) ?_ ?_
  rotate_left
  · intro Kaz hKaz
    refine call_ (rvalues_ok g A c bs ta5 ea5 pa5 hm) ?_
    rintro e wa ⟨v, xs, sa, rfl, hv, rda, pa, ma⟩
    have hq := hv
    obtain ⟨A7, c7, ts7, rfl, _⟩ := hv
    refine ⟨_, rfl, ?_⟩
    have maz := ma.size
    have hXz := (Array.getElem?_eq_some_iff.1 ba5).1
    have hXa := ma.blk ba5 (Nat.ne_of_gt hgXa)
    refine And.intro ⟨_, cellB hXa rfl⟩ (And.intro (fzB hXa _) (force_ ?_))
    refine stK hXa (show (2 : Nat) < 10 by decide) ?_
    intro wb hXb mb sb
    exact hKaz _ _ _ ⟨rfl, rfl, rfl, rfl, trivial⟩ ⟨xs, sa, LRep.mod valOk (by decide) (LRep.weak valOk (S' := fun b => b < Xa + 1) hq fun b hb e => by omega) (mb.mono fun b hb e => by omega), rda, pa.modN mb (Nat.ne_of_lt hgXa) hAXa, both (ma.mono fun _ _ e => .inl e) (mb.mono fun _ _ e => .inr e), hXb⟩
  rintro va6 ea6 fra6 ⟨xa6, ta6, ha6, ra6, pa6, ma6, ba6⟩
  have ka6 : Mod (fun b => b = g) w2 ea6 := Mod.trans ka5 ma6 fun b hb e => by omega
  replace ha4 := LRep.mod intOk (by decide) ha4 (ma6.mono fun b hb e => by omega)
  replace ha5 := LRep.mod intOk (by decide) ha5 (ma6.mono fun b hb e => by omega)
  refine seq_cut (σ := Value) (fun _ => [(0, .slice A bs.length c), (2, .pointer (some ⟨w.heap.size, 0, none⟩)), (4, .pointer (some ⟨g, 0, none⟩)), (5, .pointer (some ⟨Xa, 0, none⟩))]) (fun v w' => ∃ xs s', LRep objR w' (fun b => b < Xa + 1) v xs ∧ Reads bs (list 4 Image.w4 objF) ta6 xs s' ∧ Jr w' g A c bs s' ∧ Mod (fun b => b = g ∨ b = Xa) ea6 w' ∧ w'.heap[Xa]? = some (.cells #[zi va0, v, va6, (.slice none 0 0), (.slice none 0 0), zi va1, va4, va5, zi va2, zi va3] 28 (0, 0))) ?_ ?_
  rotate_left
  · intro Kaz hKaz
    have hBzaq := (Array.getElem?_eq_some_iff.1 ba6).1
    have hgzaq := pa6.lt
    refine seq_cut (σ := Int) (fun n => [(0, .slice A bs.length c), (2, .pointer (some ⟨w.heap.size, 0, none⟩)), (4, .pointer (some ⟨g, 0, none⟩)), (5, .pointer (some ⟨Xa, 0, none⟩)), (6, zi n)]) (fun n w' => ∃ s1, Reads bs (num 4 false Image.w4) ta6 n s1 ∧ n ≤ 4294967295 ∧ Jr w' g A c bs s1 ∧ Mod (fun b => b = g) ea6 w' ∧ w'.heap[Xa]? = some (.cells #[zi va0, (.slice none 0 0), va6, (.slice none 0 0), (.slice none 0 0), zi va1, va4, va5, zi va2, zi va3] 28 (0, 0))) ?_ ?_
    rotate_left
    · intro K2 hK2
      refine call_ (rget_ok g A c bs ta6 false 4 Image.w4 ea6 pa6) ?_
      rintro e wa ⟨n, s1, rfl, rd1, hb, p1, m1⟩
      refine ⟨_, rfl, ?_⟩
      exact hK2 n _ _ ⟨rfl, rfl, rfl, rfl, rfl, trivial⟩ ⟨s1, rd1, (hb (.inr (.inr rfl))).2, p1, m1, m1.blk ba6 (Nat.ne_of_gt hgXa)⟩
    rintro naq wnaq frnaq ⟨snaq, rdnaq, hnaq, pnaq, mnaq, hbnaq⟩
    refine den_loop (σ := ((Option Addr × Nat) × List (List Value × Obj)) × Int × RSt) (fun t => [(0, .slice A bs.length c), (2, .pointer (some ⟨w.heap.size, 0, none⟩)), (4, .pointer (some ⟨g, 0, none⟩)), (5, .pointer (some ⟨Xa, 0, none⟩)), (6, zi t.2.1)])
      (fun m t wl => m = t.2.1.toNat ∧ LInv bs objF ta6 (t.1.2.map (·.2)) t.2.1.toNat t.2.2 ∧ t.2.1.toNat + t.1.2.length ≤ 4294967296 ∧ t.2.1 ≤ 4294967295 ∧ Jr wl g A c bs t.2.2 ∧ Mod (fun b => b = g ∨ b = Xa) ea6 wl ∧ wl.heap[Xa]? = some (.cells #[zi va0, (.slice t.1.1.1 t.1.2.length t.1.1.2), va6, (.slice none 0 0), (.slice none 0 0), zi va1, va4, va5, zi va2, zi va3] 28 (0, 0)) ∧ wl.ownsRow ea6.heap.size 45 2 (.slice t.1.1.1 t.1.2.length t.1.1.2) t.1.2.length (cellsOf t.1.2) ∧
        ∀ y ∈ t.1.2, objR wl (fun b => b < ea6.heap.size ∨ some b = (Value.slice t.1.1.1 t.1.2.length t.1.1.2).ownBlock) y.1 y.2) naq.toNat (((none, 0), []), naq, snaq)
      ⟨rfl, rfl, rfl, rfl, rfl, trivial⟩ ⟨rfl, LInv.start rdnaq, by simp; omega, hnaq, pnaq, mnaq.mono fun _ _ e => .inl e, hbnaq, ⟨rfl, .inl ⟨rfl, rfl⟩⟩, fun _ h => (by cases h)⟩ ?_
    rintro maq ⟨⟨⟨Alaq, claq⟩, tlaq⟩, qaq, slaq⟩ wlaq frlaq ⟨rfl, hinvaq, hcntaq, hqaq, plaq, klaq, hblaq, ownaq, htsaq⟩
    dsimp only at hinvaq hcntaq hqaq plaq hblaq ownaq htsaq
    have hownaq := fun b (e : (Value.slice Alaq tlaq.length claq).ownBlock = some b) => ownaq.lt b e
    have klzaq := klaq.size
    have finaq : (slaq.2 = false → qaq.toNat = 0) → ∃ xs s', LRep objR wlaq (fun b => b < Xa + 1) (.slice Alaq tlaq.length claq) xs ∧ Reads bs (list 4 Image.w4 objF) ta6 xs s' ∧ Jr wlaq g A c bs s' ∧ Mod (fun b => b = g ∨ b = Xa) ea6 wlaq ∧ wlaq.heap[Xa]? = some (.cells #[zi va0, (.slice Alaq tlaq.length claq), va6, (.slice none 0 0), (.slice none 0 0), zi va1, va4, va5, zi va2, zi va3] 28 (0, 0)) := fun hz => by
      obtain ⟨A', c', e', h5, h6, row, ho⟩ := own_slice ownaq
      cases e'
      exact ⟨tlaq.map (·.2), slaq, ⟨Alaq, claq, tlaq, by rw [List.length_map], rfl, by rw [List.length_map]; exact h5, h6, by rw [List.length_map]; omega, row, fun a ha _ => ⟨(ho a ha).2.1, by have := (ho a ha).1; omega⟩, fun t ht => objOk.weak (htsaq t ht) fun b _ hb => .inl (by omega)⟩, hinvaq.done hz, plaq, klaq, hblaq⟩
    -- is there one more?
    refine seq_cut (σ := Unit) (fun _ => [(0, .slice A bs.length c), (2, .pointer (some ⟨w.heap.size, 0, none⟩)), (4, .pointer (some ⟨g, 0, none⟩)), (5, .pointer (some ⟨Xa, 0, none⟩)), (6, zi qaq)]) (fun _ w' => w' = wlaq ∧ 0 < qaq ∧ slaq.2 = false) ?_ ?_
    rotate_left
    · intro K2 hK2
      refine if_p (fun hlt => ?_) (fun hge => ?_)
      · refine Exists.intro slaq.2 (And.intro (cellB plaq.blk rfl) ?_)
        refine if_ (fun hz => ?_) (fun hz => ?_)
        · exact hK2 () _ _ ⟨rfl, rfl, rfl, rfl, rfl, trivial⟩ ⟨rfl, hlt, by simpa using hz⟩
        · replace hz : slaq.2 = true := by simpa using hz
          exact hKaz _ _ _ ⟨rfl, rfl, rfl, rfl, trivial⟩ (finaq fun h => by rw [hz] at h; cases h)
      · replace hge : ¬ 0 < qaq := hge
        exact hKaz _ _ _ ⟨rfl, rfl, rfl, rfl, trivial⟩ (finaq fun _ => by omega)
    rintro _ wyaq fryaq ⟨hwyaq, hltaq, hzaq⟩
    obtain rfl := hwyaq.symm
    clear finaq
    obtain ⟨kaq, hkaq⟩ : ∃ k, qaq.toNat = k + 1 := ⟨qaq.toNat - 1, by omega⟩
    rw [hkaq] at hinvaq
    have hk'aq : (qaq - 1).toNat = kaq := by omega
    refine seq_cut (σ := (Option Addr × Nat) × List (List Value × Obj) × RSt) (fun _ => [(0, .slice A bs.length c), (2, .pointer (some ⟨w.heap.size, 0, none⟩)), (4, .pointer (some ⟨g, 0, none⟩)), (5, .pointer (some ⟨Xa, 0, none⟩)), (6, zi qaq)])
      (fun t w' => LInv bs objF ta6 (t.2.1.map (·.2)) kaq t.2.2 ∧ t.2.1.length = tlaq.length + 1 ∧ Jr w' g A c bs t.2.2 ∧ Mod (fun b => b = g ∨ b = Xa) ea6 w' ∧ w'.heap[Xa]? = some (.cells #[zi va0, (.slice t.1.1 t.2.1.length t.1.2), va6, (.slice none 0 0), (.slice none 0 0), zi va1, va4, va5, zi va2, zi va3] 28 (0, 0)) ∧ w'.ownsRow ea6.heap.size 45 2 (.slice t.1.1 t.2.1.length t.1.2) t.2.1.length (cellsOf t.2.1) ∧
        ∀ y ∈ t.2.1, objR w' (fun b => b < ea6.heap.size ∨ some b = (Value.slice t.1.1 t.2.1.length t.1.2).ownBlock) y.1 y.2) ?_ ?_
    · rintro ⟨⟨A9, c9⟩, t9, s9⟩ w9 fr9 ⟨i1, i2, i3, i4, i5, i6, i7⟩
      dsimp only at i1 i2 i3 i5 i6 i7
      exact ⟨(qaq - 1).toNat, (((A9, c9), t9), qaq - 1, s9), (by dsimp only; omega), ⟨rfl, rfl, rfl, rfl, (show zi (IntKind.i64.wrap (qaq - 1)) = zi (qaq - 1) by rw [wrap_i64 (by omega) (by omega)]), trivial⟩, rfl, by dsimp only; rw [hk'aq]; exact i1, by dsimp only; omega, by dsimp only; omega, i3, i4, i5, i6, i7⟩
    intro Kaqy hKaqy
    refine block_ ?_
    refine seq_cut (σ := Nat) (fun X => [(0, .slice A bs.length c), (2, .pointer (some ⟨w.heap.size, 0, none⟩)), (4, .pointer (some ⟨g, 0, none⟩)), (5, .pointer (some ⟨Xa, 0, none⟩)), (6, zi qaq), (7, .pointer (some ⟨X, 0, none⟩))]) (fun X w' => ∃ (vaq0 : List UInt8) (s' : RSt), Reads bs tyF slaq vaq0 s' ∧ Jr w' g A c bs s' ∧ Mod (fun b => b = g) wlaq w' ∧ wlaq.heap.size ≤ X ∧ X < w'.heap.size ∧ w'.heap[X]? = some (.cells #[Value.string ⟨vaq0.toArray⟩, (.slice none 0 0)] 45 (0, 0))) ?_ ?_
    rotate_left
    · intro Kaqz hKaqz
      refine call_ (rtext_ok g A c bs slaq wlaq plaq hm) ?_
      rintro e wa ⟨vaq0, sa, rfl, rda, pa, ma⟩
      refine ⟨_, rfl, ?_⟩
      refine And.intro rfl ?_
      refine storeNew (vs := [Value.string ⟨vaq0.toArray⟩, (.slice none 0 0)]) (arr := #[Value.string ⟨#[]⟩, (.slice none 0 0)]) rfl (ones rfl) ?_
      intro wb hXb nb sb
      have maz := ma.size
      exact hKaqz wa.heap.size _ _ ⟨rfl, rfl, rfl, rfl, rfl, rfl, trivial⟩ ⟨vaq0, sa, rda, pa.new nb, Mod.new ma nb, maz, by omega, hXb⟩
    rintro Xaq eaq0 fraq0 ⟨vaq0, taq0, raq0, paq0, kaq0, hXaq, hXlaq, baq0⟩
    have hgXaq : g < Xaq := Nat.lt_of_lt_of_le plaq.lt hXaq
    have hAXaq : bs ≠ [] → ∀ a, A = some a → ¬ a.block = Xaq := fun hn a ha e => by have := plaq.low hn a ha; omega
    refine seq_cut (σ := Value) (fun _ => [(0, .slice A bs.length c), (2, .pointer (some ⟨w.heap.size, 0, none⟩)), (4, .pointer (some ⟨g, 0, none⟩)), (5, .pointer (some ⟨Xa, 0, none⟩)), (6, zi qaq), (7, .pointer (some ⟨Xaq, 0, none⟩))]) (fun v w' => ∃ xs s', LRep valR w' (fun b => b < Xaq + 1) v xs ∧ Reads bs (list 4 Image.w4 valF) taq0 xs s' ∧ Jr w' g A c bs s' ∧ Mod (fun b => b = g ∨ b = Xaq) eaq0 w' ∧ w'.heap[Xaq]? = some (.cells #[Value.string ⟨vaq0.toArray⟩, v] 45 (0, 0))) ?_ ?_
    rotate_left
    · intro Kaqz hKaqz
      refine call_ (rvalues_ok g A c bs taq0 eaq0 paq0 hm) ?_
      rintro e wa ⟨v, xs, sa, rfl, hv, rda, pa, ma⟩
      have hq := hv
      obtain ⟨A7, c7, ts7, rfl, _⟩ := hv
      refine ⟨_, rfl, ?_⟩
      have maz := ma.size
      have hXz := (Array.getElem?_eq_some_iff.1 baq0).1
      have hXa := ma.blk baq0 (Nat.ne_of_gt hgXaq)
      refine And.intro ⟨_, cellB hXa rfl⟩ (And.intro (fzB hXa _) (force_ ?_))
      refine stK hXa (show (1 : Nat) < 2 by decide) ?_
      intro wb hXb mb sb
      exact hKaqz _ _ _ ⟨rfl, rfl, rfl, rfl, rfl, rfl, trivial⟩ ⟨xs, sa, LRep.mod valOk (by decide) (LRep.weak valOk (S' := fun b => b < Xaq + 1) hq fun b hb e => by omega) (mb.mono fun b hb e => by omega), rda, pa.modN mb (Nat.ne_of_lt hgXaq) hAXaq, both (ma.mono fun _ _ e => .inl e) (mb.mono fun _ _ e => .inr e), hXb⟩
    rintro vaq1 eaq1 fraq1 ⟨xaq1, taq1, haq1, raq1, paq1, maq1, baq1⟩
    have kaq1 : Mod (fun b => b = g) wlaq eaq1 := Mod.trans kaq0 maq1 fun b hb e => by omega
    have rdaq : Reads bs objF slaq (⟨vaq0, xaq1⟩ : Obj) taq1 := reads_obj raq0 raq1
    obtain ⟨Avaq1, cvaq1, tsvaq1, hevaq1, hrvaq1⟩ := haq1
    have haq1 : LRep valR eaq1 (fun b => b < Xaq + 1) vaq1 xaq1 := ⟨Avaq1, cvaq1, tsvaq1, hevaq1, hrvaq1⟩
    subst hevaq1
    have hxaq : objR eaq1 (fun b => b < Xaq + 1) [Value.string ⟨vaq0.toArray⟩, (.slice Avaq1 xaq1.length cvaq1)] ⟨vaq0, xaq1⟩ := ⟨_, rfl, haq1⟩
    have hx0aq : objR eaq1 (fun b => b < wlaq.heap.size) [Value.string ⟨vaq0.toArray⟩, (.slice Avaq1 xaq1.length cvaq1)] ⟨vaq0, xaq1⟩ := objOk.weak hxaq fun b hb e => by omega
    have hB5aq := kaq1.blk hblaq (Nat.ne_of_gt hgXa)
    have m5zaq := kaq1.size
    refine Exists.intro Alaq (Exists.intro tlaq.length (Exists.intro claq (And.intro (cellB hB5aq rfl) ?_)))
    refine loadN_row (vs := [Value.string ⟨vaq0.toArray⟩, (.slice Avaq1 xaq1.length cvaq1)]) (rowB baq1) rfl ?_
    have own5aq := own_mod kaq1 ownaq (fun b hb e => by have := (hownaq b hb).1; omega)
    have n6aq := New.alloc eaq1 (.cells [Value.string ⟨vaq0.toArray⟩, (.slice Avaq1 xaq1.length cvaq1)].toArray 45)
    refine append2_ ok rfl rfl rfl rfl (own_new n6aq own5aq) rfl rfl (row_alloc eaq1 [Value.string ⟨vaq0.toArray⟩, (.slice Avaq1 xaq1.length cvaq1)] _ _) rfl (objOk.one hx0aq) (by decide) rfl (by show (tlaq.length + 1) * 40 ≤ _; omega) (by omega) (Nat.le_trans (by omega) n6aq.size) ?_
    intro A7 c7 w7 own7 mod7 st7
    have k57 : Mod (fun b => some b = (Value.slice Alaq tlaq.length claq).ownBlock) eaq1 w7 := Mod.trans n6aq.mod mod7 fun _ _ e => e
    have hl : (tlaq ++ [([Value.string ⟨vaq0.toArray⟩, (.slice Avaq1 xaq1.length cvaq1)], (⟨vaq0, xaq1⟩ : Obj))]).length = tlaq.length + 1 := by simp
    have st : ∀ b, some b = (Value.slice A7 (tlaq.length + 1) c7).ownBlock → some b = (Value.slice Alaq tlaq.length claq).ownBlock ∨ eaq1.heap.size ≤ b := fun b e => by
      rcases st7 b e.symm with e | e
      · exact .inl e.symm
      · exact .inr (Nat.le_trans n6aq.size e)
    have hnew := mem_step (h := g) (g := g) objOk htsaq hx0aq (kaq1.mono fun _ _ e => .inl e) k57 hgzaq hgzaq klzaq (fun b e => hownaq b e.symm) st
    have hB7 := k57.blk hB5aq (fun e => by have := (hownaq _ e.symm).1; omega)
    have p7 := paq1.modN k57 (fun e => by have := (hownaq _ e.symm).1; omega) (fun hn a ha e => by have := pa6.low hn a ha; have := (hownaq _ e.symm).1; omega)
    refine And.intro ⟨_, cellB hB7 rfl⟩ (And.intro (fzB hB7 _) (force_ ?_))
    refine stK hB7 (show (1 : Nat) < 10 by decide) ?_
    intro w8 hB8 m8 s8
    refine hKaqy ((A7, c7), tlaq ++ [([Value.string ⟨vaq0.toArray⟩, (.slice Avaq1 xaq1.length cvaq1)], (⟨vaq0, xaq1⟩ : Obj))], taq1) _ _ ⟨rfl, rfl, rfl, rfl, rfl, trivial⟩ ⟨?_, hl, p7.modN m8 (Nat.ne_of_lt hgXa) hAXa, ?_, ?_, ?_, ?_⟩
    · dsimp only
      rw [List.map_append]
      exact hinvaq.step hzaq rdaq
    · exact both (Mod.trans (both klaq (kaq1.mono fun _ _ e => .inl e)) k57 fun b hb e => by have := (hownaq b e.symm).1; omega) (m8.mono fun _ _ e => .inr e)
    · dsimp only
      rw [hl]
      exact hB8
    · dsimp only
      rw [hl, cellsOf_snoc]
      exact own_mod m8 own7 (fun b hb e => by have := (own7.lt b hb).1; omega)
    · intro y hy
      dsimp only at hy ⊢
      rw [hl]
      exact objOk.mod (hnew y hy) (m8.mono fun b hb e => .inl (by omega))
  rintro va7 ea7 fra7 ⟨xa7, ta7, ha7, ra7, pa7, ma7, ba7⟩
  have ka7 : Mod (fun b => b = g) w2 ea7 := Mod.trans ka6 ma7 fun b hb e => by omega
  replace ha4 := LRep.mod intOk (by decide) ha4 (ma7.mono fun b hb e => by omega)
  replace ha5 := LRep.mod intOk (by decide) ha5 (ma7.mono fun b hb e => by omega)
  replace ha6 := LRep.mod valOk (by decide) ha6 (ma7.mono fun b hb e => by omega)
  refine seq_cut (σ := Value) (fun _ => [(0, .slice A bs.length c), (2, .pointer (some ⟨w.heap.size, 0, none⟩)), (4, .pointer (some ⟨g, 0, none⟩)), (5, .pointer (some ⟨Xa, 0, none⟩))]) (fun v w' => ∃ xs s', LRep thrR w' (fun b => b < Xa + 1) v xs ∧ Reads bs (list 4 Image.w4 thrF) ta7 xs s' ∧ Jr w' g A c bs s' ∧ Mod (fun b => b = g ∨ b = Xa) ea7 w' ∧ w'.heap[Xa]? = some (.cells #[zi va0, va7, va6, v, (.slice none 0 0), zi va1, va4, va5, zi va2, zi va3] 28 (0, 0))) ?_ ?_
  rotate_left
  · intro Kaz hKaz
    have hBzaq := (Array.getElem?_eq_some_iff.1 ba7).1
    have hgzaq := pa7.lt
    refine seq_cut (σ := Int) (fun n => [(0, .slice A bs.length c), (2, .pointer (some ⟨w.heap.size, 0, none⟩)), (4, .pointer (some ⟨g, 0, none⟩)), (5, .pointer (some ⟨Xa, 0, none⟩)), (8, zi n)]) (fun n w' => ∃ s1, Reads bs (num 4 false Image.w4) ta7 n s1 ∧ n ≤ 4294967295 ∧ Jr w' g A c bs s1 ∧ Mod (fun b => b = g) ea7 w' ∧ w'.heap[Xa]? = some (.cells #[zi va0, va7, va6, (.slice none 0 0), (.slice none 0 0), zi va1, va4, va5, zi va2, zi va3] 28 (0, 0))) ?_ ?_
    rotate_left
    · intro K2 hK2
      refine call_ (rget_ok g A c bs ta7 false 4 Image.w4 ea7 pa7) ?_
      rintro e wa ⟨n, s1, rfl, rd1, hb, p1, m1⟩
      refine ⟨_, rfl, ?_⟩
      exact hK2 n _ _ ⟨rfl, rfl, rfl, rfl, rfl, trivial⟩ ⟨s1, rd1, (hb (.inr (.inr rfl))).2, p1, m1, m1.blk ba7 (Nat.ne_of_gt hgXa)⟩
    rintro naq wnaq frnaq ⟨snaq, rdnaq, hnaq, pnaq, mnaq, hbnaq⟩
    refine den_loop (σ := ((Option Addr × Nat) × List (List Value × Thr)) × Int × RSt) (fun t => [(0, .slice A bs.length c), (2, .pointer (some ⟨w.heap.size, 0, none⟩)), (4, .pointer (some ⟨g, 0, none⟩)), (5, .pointer (some ⟨Xa, 0, none⟩)), (8, zi t.2.1)])
      (fun m t wl => m = t.2.1.toNat ∧ LInv bs thrF ta7 (t.1.2.map (·.2)) t.2.1.toNat t.2.2 ∧ t.2.1.toNat + t.1.2.length ≤ 4294967296 ∧ t.2.1 ≤ 4294967295 ∧ Jr wl g A c bs t.2.2 ∧ Mod (fun b => b = g ∨ b = Xa) ea7 wl ∧ wl.heap[Xa]? = some (.cells #[zi va0, va7, va6, (.slice t.1.1.1 t.1.2.length t.1.1.2), (.slice none 0 0), zi va1, va4, va5, zi va2, zi va3] 28 (0, 0)) ∧ wl.ownsRow ea7.heap.size 48 4 (.slice t.1.1.1 t.1.2.length t.1.1.2) t.1.2.length (cellsOf t.1.2) ∧
        ∀ y ∈ t.1.2, thrR wl (fun b => b < ea7.heap.size ∨ some b = (Value.slice t.1.1.1 t.1.2.length t.1.1.2).ownBlock) y.1 y.2) naq.toNat (((none, 0), []), naq, snaq)
      ⟨rfl, rfl, rfl, rfl, rfl, trivial⟩ ⟨rfl, LInv.start rdnaq, by simp; omega, hnaq, pnaq, mnaq.mono fun _ _ e => .inl e, hbnaq, ⟨rfl, .inl ⟨rfl, rfl⟩⟩, fun _ h => (by cases h)⟩ ?_
    rintro maq ⟨⟨⟨Alaq, claq⟩, tlaq⟩, qaq, slaq⟩ wlaq frlaq ⟨rfl, hinvaq, hcntaq, hqaq, plaq, klaq, hblaq, ownaq, htsaq⟩
    dsimp only at hinvaq hcntaq hqaq plaq hblaq ownaq htsaq
    have hownaq := fun b (e : (Value.slice Alaq tlaq.length claq).ownBlock = some b) => ownaq.lt b e
    have klzaq := klaq.size
    have finaq : (slaq.2 = false → qaq.toNat = 0) → ∃ xs s', LRep thrR wlaq (fun b => b < Xa + 1) (.slice Alaq tlaq.length claq) xs ∧ Reads bs (list 4 Image.w4 thrF) ta7 xs s' ∧ Jr wlaq g A c bs s' ∧ Mod (fun b => b = g ∨ b = Xa) ea7 wlaq ∧ wlaq.heap[Xa]? = some (.cells #[zi va0, va7, va6, (.slice Alaq tlaq.length claq), (.slice none 0 0), zi va1, va4, va5, zi va2, zi va3] 28 (0, 0)) := fun hz => by
      obtain ⟨A', c', e', h5, h6, row, ho⟩ := own_slice ownaq
      cases e'
      exact ⟨tlaq.map (·.2), slaq, ⟨Alaq, claq, tlaq, by rw [List.length_map], rfl, by rw [List.length_map]; exact h5, h6, by rw [List.length_map]; omega, row, fun a ha _ => ⟨(ho a ha).2.1, by have := (ho a ha).1; omega⟩, fun t ht => thrOk.weak (htsaq t ht) fun b _ hb => .inl (by omega)⟩, hinvaq.done hz, plaq, klaq, hblaq⟩
    -- is there one more?
    refine seq_cut (σ := Unit) (fun _ => [(0, .slice A bs.length c), (2, .pointer (some ⟨w.heap.size, 0, none⟩)), (4, .pointer (some ⟨g, 0, none⟩)), (5, .pointer (some ⟨Xa, 0, none⟩)), (8, zi qaq)]) (fun _ w' => w' = wlaq ∧ 0 < qaq ∧ slaq.2 = false) ?_ ?_
    rotate_left
    · intro K2 hK2
      refine if_p (fun hlt => ?_) (fun hge => ?_)
      · refine Exists.intro slaq.2 (And.intro (cellB plaq.blk rfl) ?_)
        refine if_ (fun hz => ?_) (fun hz => ?_)
        · exact hK2 () _ _ ⟨rfl, rfl, rfl, rfl, rfl, trivial⟩ ⟨rfl, hlt, by simpa using hz⟩
        · replace hz : slaq.2 = true := by simpa using hz
          exact hKaz _ _ _ ⟨rfl, rfl, rfl, rfl, trivial⟩ (finaq fun h => by rw [hz] at h; cases h)
      · replace hge : ¬ 0 < qaq := hge
        exact hKaz _ _ _ ⟨rfl, rfl, rfl, rfl, trivial⟩ (finaq fun _ => by omega)
    rintro _ wyaq fryaq ⟨hwyaq, hltaq, hzaq⟩
    obtain rfl := hwyaq.symm
    clear finaq
    obtain ⟨kaq, hkaq⟩ : ∃ k, qaq.toNat = k + 1 := ⟨qaq.toNat - 1, by omega⟩
    rw [hkaq] at hinvaq
    have hk'aq : (qaq - 1).toNat = kaq := by omega
    refine seq_cut (σ := (Option Addr × Nat) × List (List Value × Thr) × RSt) (fun _ => [(0, .slice A bs.length c), (2, .pointer (some ⟨w.heap.size, 0, none⟩)), (4, .pointer (some ⟨g, 0, none⟩)), (5, .pointer (some ⟨Xa, 0, none⟩)), (8, zi qaq)])
      (fun t w' => LInv bs thrF ta7 (t.2.1.map (·.2)) kaq t.2.2 ∧ t.2.1.length = tlaq.length + 1 ∧ Jr w' g A c bs t.2.2 ∧ Mod (fun b => b = g ∨ b = Xa) ea7 w' ∧ w'.heap[Xa]? = some (.cells #[zi va0, va7, va6, (.slice t.1.1 t.2.1.length t.1.2), (.slice none 0 0), zi va1, va4, va5, zi va2, zi va3] 28 (0, 0)) ∧ w'.ownsRow ea7.heap.size 48 4 (.slice t.1.1 t.2.1.length t.1.2) t.2.1.length (cellsOf t.2.1) ∧
        ∀ y ∈ t.2.1, thrR w' (fun b => b < ea7.heap.size ∨ some b = (Value.slice t.1.1 t.2.1.length t.1.2).ownBlock) y.1 y.2) ?_ ?_
    · rintro ⟨⟨A9, c9⟩, t9, s9⟩ w9 fr9 ⟨i1, i2, i3, i4, i5, i6, i7⟩
      dsimp only at i1 i2 i3 i5 i6 i7
      exact ⟨(qaq - 1).toNat, (((A9, c9), t9), qaq - 1, s9), (by dsimp only; omega), ⟨rfl, rfl, rfl, rfl, (show zi (IntKind.i64.wrap (qaq - 1)) = zi (qaq - 1) by rw [wrap_i64 (by omega) (by omega)]), trivial⟩, rfl, by dsimp only; rw [hk'aq]; exact i1, by dsimp only; omega, by dsimp only; omega, i3, i4, i5, i6, i7⟩
    intro Kaqy hKaqy
    refine block_ ?_
    refine seq_cut (σ := Nat) (fun X => [(0, .slice A bs.length c), (2, .pointer (some ⟨w.heap.size, 0, none⟩)), (4, .pointer (some ⟨g, 0, none⟩)), (5, .pointer (some ⟨Xa, 0, none⟩)), (8, zi qaq), (9, .pointer (some ⟨X, 0, none⟩))]) (fun X w' => ∃ (vaq0 : Int) (s' : RSt), Reads bs n8 slaq vaq0 s' ∧ Jr w' g A c bs s' ∧ Mod (fun b => b = g) wlaq w' ∧ wlaq.heap.size ≤ X ∧ X < w'.heap.size ∧ w'.heap[X]? = some (.cells #[zi vaq0, (.slice none 0 0), zi 0, zi 0] 48 (0, 0))) ?_ ?_
    rotate_left
    · intro Kaqz hKaqz
      refine call_ (rnumber_ok g A c bs slaq wlaq plaq) ?_
      rintro e wa ⟨vaq0, sa, rfl, rda, pa, ma⟩
      refine ⟨_, rfl, ?_⟩
      refine And.intro rfl ?_
      refine storeNew (vs := [zi vaq0, (.slice none 0 0), zi 0, zi 0]) (arr := #[zi 0, (.slice none 0 0), zi 0, zi 0]) rfl (ones rfl) ?_
      intro wb hXb nb sb
      have maz := ma.size
      exact hKaqz wa.heap.size _ _ ⟨rfl, rfl, rfl, rfl, rfl, rfl, trivial⟩ ⟨vaq0, sa, rda, pa.new nb, Mod.new ma nb, maz, by omega, hXb⟩
    rintro Xaq eaq0 fraq0 ⟨vaq0, taq0, raq0, paq0, kaq0, hXaq, hXlaq, baq0⟩
    have hgXaq : g < Xaq := Nat.lt_of_lt_of_le plaq.lt hXaq
    have hAXaq : bs ≠ [] → ∀ a, A = some a → ¬ a.block = Xaq := fun hn a ha e => by have := plaq.low hn a ha; omega
    refine seq_cut (σ := Unit) (fun _ => [(0, .slice A bs.length c), (2, .pointer (some ⟨w.heap.size, 0, none⟩)), (4, .pointer (some ⟨g, 0, none⟩)), (5, .pointer (some ⟨Xa, 0, none⟩)), (8, zi qaq), (9, .pointer (some ⟨Xaq, 0, none⟩))]) (fun _ w' => ∃ (vaq1 : Int) (s' : RSt), Reads bs n8 taq0 vaq1 s' ∧ Jr w' g A c bs s' ∧ Mod (fun b => b = g ∨ b = Xaq) eaq0 w' ∧ w'.heap[Xaq]? = some (.cells #[zi vaq0, (.slice none 0 0), zi vaq1, zi 0] 48 (0, 0))) ?_ ?_
    rotate_left
    · intro Kaqz hKaqz
      refine call_ (rnumber_ok g A c bs taq0 eaq0 paq0) ?_
      rintro e wa ⟨vaq1, sa, rfl, rda, pa, ma⟩
      refine ⟨_, rfl, ?_⟩
      have hXa := ma.blk baq0 (Nat.ne_of_gt hgXaq)
      refine And.intro ⟨_, cellB hXa rfl⟩ (And.intro (fzB hXa _) (force_ ?_))
      refine stK hXa (show (2 : Nat) < 4 by decide) ?_
      intro wb hXb mb sb
      exact hKaqz () _ _ ⟨rfl, rfl, rfl, rfl, rfl, rfl, trivial⟩ ⟨vaq1, sa, rda, pa.modN mb (Nat.ne_of_lt hgXaq) hAXaq, both (ma.mono fun _ _ e => .inl e) (mb.mono fun _ _ e => .inr e), hXb⟩
    rintro _ eaq1 fraq1 ⟨vaq1, taq1, raq1, paq1, maq1, baq1⟩
    have kaq1 : Mod (fun b => b = g) wlaq eaq1 := Mod.trans kaq0 maq1 fun b hb e => by omega
    refine seq_cut (σ := Unit) (fun _ => [(0, .slice A bs.length c), (2, .pointer (some ⟨w.heap.size, 0, none⟩)), (4, .pointer (some ⟨g, 0, none⟩)), (5, .pointer (some ⟨Xa, 0, none⟩)), (8, zi qaq), (9, .pointer (some ⟨Xaq, 0, none⟩))]) (fun _ w' => ∃ (vaq2 : Int) (s' : RSt), Reads bs n8 taq1 vaq2 s' ∧ Jr w' g A c bs s' ∧ Mod (fun b => b = g ∨ b = Xaq) eaq1 w' ∧ w'.heap[Xaq]? = some (.cells #[zi vaq0, (.slice none 0 0), zi vaq1, zi vaq2] 48 (0, 0))) ?_ ?_
    rotate_left
    · intro Kaqz hKaqz
      refine call_ (rnumber_ok g A c bs taq1 eaq1 paq1) ?_
      rintro e wa ⟨vaq2, sa, rfl, rda, pa, ma⟩
      refine ⟨_, rfl, ?_⟩
      have hXa := ma.blk baq1 (Nat.ne_of_gt hgXaq)
      refine And.intro ⟨_, cellB hXa rfl⟩ (And.intro (fzB hXa _) (force_ ?_))
      refine stK hXa (show (3 : Nat) < 4 by decide) ?_
      intro wb hXb mb sb
      exact hKaqz () _ _ ⟨rfl, rfl, rfl, rfl, rfl, rfl, trivial⟩ ⟨vaq2, sa, rda, pa.modN mb (Nat.ne_of_lt hgXaq) hAXaq, both (ma.mono fun _ _ e => .inl e) (mb.mono fun _ _ e => .inr e), hXb⟩
    rintro _ eaq2 fraq2 ⟨vaq2, taq2, raq2, paq2, maq2, baq2⟩
    have kaq2 : Mod (fun b => b = g) wlaq eaq2 := Mod.trans kaq1 maq2 fun b hb e => by omega
    refine seq_cut (σ := Value) (fun _ => [(0, .slice A bs.length c), (2, .pointer (some ⟨w.heap.size, 0, none⟩)), (4, .pointer (some ⟨g, 0, none⟩)), (5, .pointer (some ⟨Xa, 0, none⟩)), (8, zi qaq), (9, .pointer (some ⟨Xaq, 0, none⟩))]) (fun v w' => ∃ xs s', LRep callR w' (fun b => b < Xaq + 1) v xs ∧ Reads bs (list 4 Image.w4 callF) taq2 xs s' ∧ Jr w' g A c bs s' ∧ Mod (fun b => b = g ∨ b = Xaq) eaq2 w' ∧ w'.heap[Xaq]? = some (.cells #[zi vaq0, v, zi vaq1, zi vaq2] 48 (0, 0))) ?_ ?_
    rotate_left
    · intro Kaqz hKaqz
      have hBzaqq := (Array.getElem?_eq_some_iff.1 baq2).1
      have hgzaqq := paq2.lt
      refine seq_cut (σ := Int) (fun n => [(0, .slice A bs.length c), (2, .pointer (some ⟨w.heap.size, 0, none⟩)), (4, .pointer (some ⟨g, 0, none⟩)), (5, .pointer (some ⟨Xa, 0, none⟩)), (8, zi qaq), (9, .pointer (some ⟨Xaq, 0, none⟩)), (10, zi n)]) (fun n w' => ∃ s1, Reads bs (num 4 false Image.w4) taq2 n s1 ∧ n ≤ 4294967295 ∧ Jr w' g A c bs s1 ∧ Mod (fun b => b = g) eaq2 w' ∧ w'.heap[Xaq]? = some (.cells #[zi vaq0, (.slice none 0 0), zi vaq1, zi vaq2] 48 (0, 0))) ?_ ?_
      rotate_left
      · intro K2 hK2
        refine call_ (rget_ok g A c bs taq2 false 4 Image.w4 eaq2 paq2) ?_
        rintro e wa ⟨n, s1, rfl, rd1, hb, p1, m1⟩
        refine ⟨_, rfl, ?_⟩
        exact hK2 n _ _ ⟨rfl, rfl, rfl, rfl, rfl, rfl, rfl, trivial⟩ ⟨s1, rd1, (hb (.inr (.inr rfl))).2, p1, m1, m1.blk baq2 (Nat.ne_of_gt hgXaq)⟩
      rintro naqq wnaqq frnaqq ⟨snaqq, rdnaqq, hnaqq, pnaqq, mnaqq, hbnaqq⟩
      refine den_loop (σ := ((Option Addr × Nat) × List (List Value × Call)) × Int × RSt) (fun t => [(0, .slice A bs.length c), (2, .pointer (some ⟨w.heap.size, 0, none⟩)), (4, .pointer (some ⟨g, 0, none⟩)), (5, .pointer (some ⟨Xa, 0, none⟩)), (8, zi qaq), (9, .pointer (some ⟨Xaq, 0, none⟩)), (10, zi t.2.1)])
        (fun m t wl => m = t.2.1.toNat ∧ LInv bs callF taq2 (t.1.2.map (·.2)) t.2.1.toNat t.2.2 ∧ t.2.1.toNat + t.1.2.length ≤ 4294967296 ∧ t.2.1 ≤ 4294967295 ∧ Jr wl g A c bs t.2.2 ∧ Mod (fun b => b = g ∨ b = Xaq) eaq2 wl ∧ wl.heap[Xaq]? = some (.cells #[zi vaq0, (.slice t.1.1.1 t.1.2.length t.1.1.2), zi vaq1, zi vaq2] 48 (0, 0)) ∧ wl.ownsRow eaq2.heap.size 50 6 (.slice t.1.1.1 t.1.2.length t.1.1.2) t.1.2.length (cellsOf t.1.2) ∧
          ∀ y ∈ t.1.2, callR wl (fun b => b < eaq2.heap.size ∨ some b = (Value.slice t.1.1.1 t.1.2.length t.1.1.2).ownBlock) y.1 y.2) naqq.toNat (((none, 0), []), naqq, snaqq)
        ⟨rfl, rfl, rfl, rfl, rfl, rfl, rfl, trivial⟩ ⟨rfl, LInv.start rdnaqq, by simp; omega, hnaqq, pnaqq, mnaqq.mono fun _ _ e => .inl e, hbnaqq, ⟨rfl, .inl ⟨rfl, rfl⟩⟩, fun _ h => (by cases h)⟩ ?_
      rintro maqq ⟨⟨⟨Alaqq, claqq⟩, tlaqq⟩, qaqq, slaqq⟩ wlaqq frlaqq ⟨rfl, hinvaqq, hcntaqq, hqaqq, plaqq, klaqq, hblaqq, ownaqq, htsaqq⟩
      dsimp only at hinvaqq hcntaqq hqaqq plaqq hblaqq ownaqq htsaqq
      have hownaqq := fun b (e : (Value.slice Alaqq tlaqq.length claqq).ownBlock = some b) => ownaqq.lt b e
      have klzaqq := klaqq.size
      have finaqq : (slaqq.2 = false → qaqq.toNat = 0) → ∃ xs s', LRep callR wlaqq (fun b => b < Xaq + 1) (.slice Alaqq tlaqq.length claqq) xs ∧ Reads bs (list 4 Image.w4 callF) taq2 xs s' ∧ Jr wlaqq g A c bs s' ∧ Mod (fun b => b = g ∨ b = Xaq) eaq2 wlaqq ∧ wlaqq.heap[Xaq]? = some (.cells #[zi vaq0, (.slice Alaqq tlaqq.length claqq), zi vaq1, zi vaq2] 48 (0, 0)) := fun hz => by
        obtain ⟨A', c', e', h5, h6, row, ho⟩ := own_slice ownaqq
        cases e'
        exact ⟨tlaqq.map (·.2), slaqq, ⟨Alaqq, claqq, tlaqq, by rw [List.length_map], rfl, by rw [List.length_map]; exact h5, h6, by rw [List.length_map]; omega, row, fun a ha _ => ⟨(ho a ha).2.1, by have := (ho a ha).1; omega⟩, fun t ht => callOk.weak (htsaqq t ht) fun b _ hb => .inl (by omega)⟩, hinvaqq.done hz, plaqq, klaqq, hblaqq⟩
      -- is there one more?
      refine seq_cut (σ := Unit) (fun _ => [(0, .slice A bs.length c), (2, .pointer (some ⟨w.heap.size, 0, none⟩)), (4, .pointer (some ⟨g, 0, none⟩)), (5, .pointer (some ⟨Xa, 0, none⟩)), (8, zi qaq), (9, .pointer (some ⟨Xaq, 0, none⟩)), (10, zi qaqq)]) (fun _ w' => w' = wlaqq ∧ 0 < qaqq ∧ slaqq.2 = false) ?_ ?_
      rotate_left
      · intro K2 hK2
        refine if_p (fun hlt => ?_) (fun hge => ?_)
        · refine Exists.intro slaqq.2 (And.intro (cellB plaqq.blk rfl) ?_)
          refine if_ (fun hz => ?_) (fun hz => ?_)
          · exact hK2 () _ _ ⟨rfl, rfl, rfl, rfl, rfl, rfl, rfl, trivial⟩ ⟨rfl, hlt, by simpa using hz⟩
          · replace hz : slaqq.2 = true := by simpa using hz
            exact hKaqz _ _ _ ⟨rfl, rfl, rfl, rfl, rfl, rfl, trivial⟩ (finaqq fun h => by rw [hz] at h; cases h)
        · replace hge : ¬ 0 < qaqq := hge
          exact hKaqz _ _ _ ⟨rfl, rfl, rfl, rfl, rfl, rfl, trivial⟩ (finaqq fun _ => by omega)
      rintro _ wyaqq fryaqq ⟨hwyaqq, hltaqq, hzaqq⟩
      obtain rfl := hwyaqq.symm
      clear finaqq
      obtain ⟨kaqq, hkaqq⟩ : ∃ k, qaqq.toNat = k + 1 := ⟨qaqq.toNat - 1, by omega⟩
      rw [hkaqq] at hinvaqq
      have hk'aqq : (qaqq - 1).toNat = kaqq := by omega
      refine seq_cut (σ := (Option Addr × Nat) × List (List Value × Call) × RSt) (fun _ => [(0, .slice A bs.length c), (2, .pointer (some ⟨w.heap.size, 0, none⟩)), (4, .pointer (some ⟨g, 0, none⟩)), (5, .pointer (some ⟨Xa, 0, none⟩)), (8, zi qaq), (9, .pointer (some ⟨Xaq, 0, none⟩)), (10, zi qaqq)])
        (fun t w' => LInv bs callF taq2 (t.2.1.map (·.2)) kaqq t.2.2 ∧ t.2.1.length = tlaqq.length + 1 ∧ Jr w' g A c bs t.2.2 ∧ Mod (fun b => b = g ∨ b = Xaq) eaq2 w' ∧ w'.heap[Xaq]? = some (.cells #[zi vaq0, (.slice t.1.1 t.2.1.length t.1.2), zi vaq1, zi vaq2] 48 (0, 0)) ∧ w'.ownsRow eaq2.heap.size 50 6 (.slice t.1.1 t.2.1.length t.1.2) t.2.1.length (cellsOf t.2.1) ∧
          ∀ y ∈ t.2.1, callR w' (fun b => b < eaq2.heap.size ∨ some b = (Value.slice t.1.1 t.2.1.length t.1.2).ownBlock) y.1 y.2) ?_ ?_
      · rintro ⟨⟨A9, c9⟩, t9, s9⟩ w9 fr9 ⟨i1, i2, i3, i4, i5, i6, i7⟩
        dsimp only at i1 i2 i3 i5 i6 i7
        exact ⟨(qaqq - 1).toNat, (((A9, c9), t9), qaqq - 1, s9), (by dsimp only; omega), ⟨rfl, rfl, rfl, rfl, rfl, rfl, (show zi (IntKind.i64.wrap (qaqq - 1)) = zi (qaqq - 1) by rw [wrap_i64 (by omega) (by omega)]), trivial⟩, rfl, by dsimp only; rw [hk'aqq]; exact i1, by dsimp only; omega, by dsimp only; omega, i3, i4, i5, i6, i7⟩
      intro Kaqqy hKaqqy
      refine block_ ?_
      refine seq_cut (σ := Nat) (fun X => [(0, .slice A bs.length c), (2, .pointer (some ⟨w.heap.size, 0, none⟩)), (4, .pointer (some ⟨g, 0, none⟩)), (5, .pointer (some ⟨Xa, 0, none⟩)), (8, zi qaq), (9, .pointer (some ⟨Xaq, 0, none⟩)), (10, zi qaqq), (11, .pointer (some ⟨X, 0, none⟩))]) (fun X w' => ∃ (vaqq0 : Int) (s' : RSt), Reads bs n8 slaqq vaqq0 s' ∧ Jr w' g A c bs s' ∧ Mod (fun b => b = g) wlaqq w' ∧ wlaqq.heap.size ≤ X ∧ X < w'.heap.size ∧ w'.heap[X]? = some (.cells #[zi vaqq0, zi 0, zi 0, (.slice none 0 0), (.slice none 0 0), zi 0] 50 (0, 0))) ?_ ?_
      rotate_left
      · intro Kaqqz hKaqqz
        refine call_ (rnumber_ok g A c bs slaqq wlaqq plaqq) ?_
        rintro e wa ⟨vaqq0, sa, rfl, rda, pa, ma⟩
        refine ⟨_, rfl, ?_⟩
        refine And.intro rfl ?_
        refine storeNew (vs := [zi vaqq0, zi 0, zi 0, (.slice none 0 0), (.slice none 0 0), zi 0]) (arr := #[zi 0, zi 0, zi 0, (.slice none 0 0), (.slice none 0 0), zi 0]) rfl (ones rfl) ?_
        intro wb hXb nb sb
        have maz := ma.size
        exact hKaqqz wa.heap.size _ _ ⟨rfl, rfl, rfl, rfl, rfl, rfl, rfl, rfl, trivial⟩ ⟨vaqq0, sa, rda, pa.new nb, Mod.new ma nb, maz, by omega, hXb⟩
      rintro Xaqq eaqq0 fraqq0 ⟨vaqq0, taqq0, raqq0, paqq0, kaqq0, hXaqq, hXlaqq, baqq0⟩
      have hgXaqq : g < Xaqq := Nat.lt_of_lt_of_le plaqq.lt hXaqq
      have hAXaqq : bs ≠ [] → ∀ a, A = some a → ¬ a.block = Xaqq := fun hn a ha e => by have := plaqq.low hn a ha; omega
      refine seq_cut (σ := Unit) (fun _ => [(0, .slice A bs.length c), (2, .pointer (some ⟨w.heap.size, 0, none⟩)), (4, .pointer (some ⟨g, 0, none⟩)), (5, .pointer (some ⟨Xa, 0, none⟩)), (8, zi qaq), (9, .pointer (some ⟨Xaq, 0, none⟩)), (10, zi qaqq), (11, .pointer (some ⟨Xaqq, 0, none⟩))]) (fun _ w' => ∃ (vaqq1 : Int) (s' : RSt), Reads bs n8 taqq0 vaqq1 s' ∧ Jr w' g A c bs s' ∧ Mod (fun b => b = g ∨ b = Xaqq) eaqq0 w' ∧ w'.heap[Xaqq]? = some (.cells #[zi vaqq0, zi vaqq1, zi 0, (.slice none 0 0), (.slice none 0 0), zi 0] 50 (0, 0))) ?_ ?_
      rotate_left
      · intro Kaqqz hKaqqz
        refine call_ (rnumber_ok g A c bs taqq0 eaqq0 paqq0) ?_
        rintro e wa ⟨vaqq1, sa, rfl, rda, pa, ma⟩
        refine ⟨_, rfl, ?_⟩
        have hXa := ma.blk baqq0 (Nat.ne_of_gt hgXaqq)
        refine And.intro ⟨_, cellB hXa rfl⟩ (And.intro (fzB hXa _) (force_ ?_))
        refine stK hXa (show (1 : Nat) < 6 by decide) ?_
        intro wb hXb mb sb
        exact hKaqqz () _ _ ⟨rfl, rfl, rfl, rfl, rfl, rfl, rfl, rfl, trivial⟩ ⟨vaqq1, sa, rda, pa.modN mb (Nat.ne_of_lt hgXaqq) hAXaqq, both (ma.mono fun _ _ e => .inl e) (mb.mono fun _ _ e => .inr e), hXb⟩
      rintro _ eaqq1 fraqq1 ⟨vaqq1, taqq1, raqq1, paqq1, maqq1, baqq1⟩
      have kaqq1 : Mod (fun b => b = g) wlaqq eaqq1 := Mod.trans kaqq0 maqq1 fun b hb e => by omega
      refine seq_cut (σ := Unit) (fun _ => [(0, .slice A bs.length c), (2, .pointer (some ⟨w.heap.size, 0, none⟩)), (4, .pointer (some ⟨g, 0, none⟩)), (5, .pointer (some ⟨Xa, 0, none⟩)), (8, zi qaq), (9, .pointer (some ⟨Xaq, 0, none⟩)), (10, zi qaqq), (11, .pointer (some ⟨Xaqq, 0, none⟩))]) (fun _ w' => ∃ (vaqq2 : Int) (s' : RSt), Reads bs n8 taqq1 vaqq2 s' ∧ Jr w' g A c bs s' ∧ Mod (fun b => b = g ∨ b = Xaqq) eaqq1 w' ∧ w'.heap[Xaqq]? = some (.cells #[zi vaqq0, zi vaqq1, zi vaqq2, (.slice none 0 0), (.slice none 0 0), zi 0] 50 (0, 0))) ?_ ?_
      rotate_left
      · intro Kaqqz hKaqqz
        refine call_ (rnumber_ok g A c bs taqq1 eaqq1 paqq1) ?_
        rintro e wa ⟨vaqq2, sa, rfl, rda, pa, ma⟩
        refine ⟨_, rfl, ?_⟩
        have hXa := ma.blk baqq1 (Nat.ne_of_gt hgXaqq)
        refine And.intro ⟨_, cellB hXa rfl⟩ (And.intro (fzB hXa _) (force_ ?_))
        refine stK hXa (show (2 : Nat) < 6 by decide) ?_
        intro wb hXb mb sb
        exact hKaqqz () _ _ ⟨rfl, rfl, rfl, rfl, rfl, rfl, rfl, rfl, trivial⟩ ⟨vaqq2, sa, rda, pa.modN mb (Nat.ne_of_lt hgXaqq) hAXaqq, both (ma.mono fun _ _ e => .inl e) (mb.mono fun _ _ e => .inr e), hXb⟩
      rintro _ eaqq2 fraqq2 ⟨vaqq2, taqq2, raqq2, paqq2, maqq2, baqq2⟩
      have kaqq2 : Mod (fun b => b = g) wlaqq eaqq2 := Mod.trans kaqq1 maqq2 fun b hb e => by omega
      refine seq_cut (σ := Unit) (fun _ => [(0, .slice A bs.length c), (2, .pointer (some ⟨w.heap.size, 0, none⟩)), (4, .pointer (some ⟨g, 0, none⟩)), (5, .pointer (some ⟨Xa, 0, none⟩)), (8, zi qaq), (9, .pointer (some ⟨Xaq, 0, none⟩)), (10, zi qaqq), (11, .pointer (some ⟨Xaqq, 0, none⟩))]) (fun _ w' => ∃ (vaqq3 : Int) (s' : RSt), Reads bs n8 taqq2 vaqq3 s' ∧ Jr w' g A c bs s' ∧ Mod (fun b => b = g ∨ b = Xaqq) eaqq2 w' ∧ w'.heap[Xaqq]? = some (.cells #[zi vaqq0, zi vaqq1, zi vaqq2, (.slice none 0 0), (.slice none 0 0), zi vaqq3] 50 (0, 0))) ?_ ?_
      rotate_left
      · intro Kaqqz hKaqqz
        refine call_ (rnumber_ok g A c bs taqq2 eaqq2 paqq2) ?_
        rintro e wa ⟨vaqq3, sa, rfl, rda, pa, ma⟩
        refine ⟨_, rfl, ?_⟩
        have hXa := ma.blk baqq2 (Nat.ne_of_gt hgXaqq)
        refine And.intro ⟨_, cellB hXa rfl⟩ (And.intro (fzB hXa _) (force_ ?_))
        refine stK hXa (show (5 : Nat) < 6 by decide) ?_
        intro wb hXb mb sb
        exact hKaqqz () _ _ ⟨rfl, rfl, rfl, rfl, rfl, rfl, rfl, rfl, trivial⟩ ⟨vaqq3, sa, rda, pa.modN mb (Nat.ne_of_lt hgXaqq) hAXaqq, both (ma.mono fun _ _ e => .inl e) (mb.mono fun _ _ e => .inr e), hXb⟩
      rintro _ eaqq3 fraqq3 ⟨vaqq3, taqq3, raqq3, paqq3, maqq3, baqq3⟩
      have kaqq3 : Mod (fun b => b = g) wlaqq eaqq3 := Mod.trans kaqq2 maqq3 fun b hb e => by omega
      refine seq_cut (σ := Value) (fun _ => [(0, .slice A bs.length c), (2, .pointer (some ⟨w.heap.size, 0, none⟩)), (4, .pointer (some ⟨g, 0, none⟩)), (5, .pointer (some ⟨Xa, 0, none⟩)), (8, zi qaq), (9, .pointer (some ⟨Xaq, 0, none⟩)), (10, zi qaqq), (11, .pointer (some ⟨Xaqq, 0, none⟩))]) (fun v w' => ∃ xs s', LRep valR w' (fun b => b < Xaqq + 1) v xs ∧ Reads bs (list 4 Image.w4 valF) taqq3 xs s' ∧ Jr w' g A c bs s' ∧ Mod (fun b => b = g ∨ b = Xaqq) eaqq3 w' ∧ w'.heap[Xaqq]? = some (.cells #[zi vaqq0, zi vaqq1, zi vaqq2, v, (.slice none 0 0), zi vaqq3] 50 (0, 0))) ?_ ?_
      rotate_left
      · intro Kaqqz hKaqqz
        refine call_ (rvalues_ok g A c bs taqq3 eaqq3 paqq3 hm) ?_
        rintro e wa ⟨v, xs, sa, rfl, hv, rda, pa, ma⟩
        have hq := hv
        obtain ⟨A7, c7, ts7, rfl, _⟩ := hv
        refine ⟨_, rfl, ?_⟩
        have maz := ma.size
        have hXz := (Array.getElem?_eq_some_iff.1 baqq3).1
        have hXa := ma.blk baqq3 (Nat.ne_of_gt hgXaqq)
        refine And.intro ⟨_, cellB hXa rfl⟩ (And.intro (fzB hXa _) (force_ ?_))
        refine stK hXa (show (3 : Nat) < 6 by decide) ?_
        intro wb hXb mb sb
        exact hKaqqz _ _ _ ⟨rfl, rfl, rfl, rfl, rfl, rfl, rfl, rfl, trivial⟩ ⟨xs, sa, LRep.mod valOk (by decide) (LRep.weak valOk (S' := fun b => b < Xaqq + 1) hq fun b hb e => by omega) (mb.mono fun b hb e => by omega), rda, pa.modN mb (Nat.ne_of_lt hgXaqq) hAXaqq, both (ma.mono fun _ _ e => .inl e) (mb.mono fun _ _ e => .inr e), hXb⟩
      rintro vaqq4 eaqq4 fraqq4 ⟨xaqq4, taqq4, haqq4, raqq4, paqq4, maqq4, baqq4⟩
      have kaqq4 : Mod (fun b => b = g) wlaqq eaqq4 := Mod.trans kaqq3 maqq4 fun b hb e => by omega
      refine seq_cut (σ := Value) (fun _ => [(0, .slice A bs.length c), (2, .pointer (some ⟨w.heap.size, 0, none⟩)), (4, .pointer (some ⟨g, 0, none⟩)), (5, .pointer (some ⟨Xa, 0, none⟩)), (8, zi qaq), (9, .pointer (some ⟨Xaq, 0, none⟩)), (10, zi qaqq), (11, .pointer (some ⟨Xaqq, 0, none⟩))]) (fun v w' => ∃ xs s', LRep valR w' (fun b => b < Xaqq + 1) v xs ∧ Reads bs (list 4 Image.w4 valF) taqq4 xs s' ∧ Jr w' g A c bs s' ∧ Mod (fun b => b = g ∨ b = Xaqq) eaqq4 w' ∧ w'.heap[Xaqq]? = some (.cells #[zi vaqq0, zi vaqq1, zi vaqq2, vaqq4, v, zi vaqq3] 50 (0, 0))) ?_ ?_
      rotate_left
      · intro Kaqqz hKaqqz
        refine call_ (rvalues_ok g A c bs taqq4 eaqq4 paqq4 hm) ?_
        rintro e wa ⟨v, xs, sa, rfl, hv, rda, pa, ma⟩
        have hq := hv
        obtain ⟨A7, c7, ts7, rfl, _⟩ := hv
        refine ⟨_, rfl, ?_⟩
        have maz := ma.size
        have hXz := (Array.getElem?_eq_some_iff.1 baqq4).1
        have hXa := ma.blk baqq4 (Nat.ne_of_gt hgXaqq)
        refine And.intro ⟨_, cellB hXa rfl⟩ (And.intro (fzB hXa _) (force_ ?_))
        refine stK hXa (show (4 : Nat) < 6 by decide) ?_
        intro wb hXb mb sb
        exact hKaqqz _ _ _ ⟨rfl, rfl, rfl, rfl, rfl, rfl, rfl, rfl, trivial⟩ ⟨xs, sa, LRep.mod valOk (by decide) (LRep.weak valOk (S' := fun b => b < Xaqq + 1) hq fun b hb e => by omega) (mb.mono fun b hb e => by omega), rda, pa.modN mb (Nat.ne_of_lt hgXaqq) hAXaqq, both (ma.mono fun _ _ e => .inl e) (mb.mono fun _ _ e => .inr e), hXb⟩
      rintro vaqq5 eaqq5 fraqq5 ⟨xaqq5, taqq5, haqq5, raqq5, paqq5, maqq5, baqq5⟩
      have kaqq5 : Mod (fun b => b = g) wlaqq eaqq5 := Mod.trans kaqq4 maqq5 fun b hb e => by omega
      replace haqq4 := LRep.mod valOk (by decide) haqq4 (maqq5.mono fun b hb e => by omega)
      have rdaqq : Reads bs callF slaqq (⟨vaqq0, vaqq1, vaqq2, vaqq3, xaqq4, xaqq5⟩ : Call) taqq5 := reads_call raqq0 raqq1 raqq2 raqq3 raqq4 raqq5
      obtain ⟨Avaqq4, cvaqq4, tsvaqq4, hevaqq4, hrvaqq4⟩ := haqq4
      have haqq4 : LRep valR eaqq5 (fun b => b < Xaqq + 1) vaqq4 xaqq4 := ⟨Avaqq4, cvaqq4, tsvaqq4, hevaqq4, hrvaqq4⟩
      subst hevaqq4
      obtain ⟨Avaqq5, cvaqq5, tsvaqq5, hevaqq5, hrvaqq5⟩ := haqq5
      have haqq5 : LRep valR eaqq5 (fun b => b < Xaqq + 1) vaqq5 xaqq5 := ⟨Avaqq5, cvaqq5, tsvaqq5, hevaqq5, hrvaqq5⟩
      subst hevaqq5
      have hxaqq : callR eaqq5 (fun b => b < Xaqq + 1) [zi vaqq0, zi vaqq1, zi vaqq2, (.slice Avaqq4 xaqq4.length cvaqq4), (.slice Avaqq5 xaqq5.length cvaqq5), zi vaqq3] ⟨vaqq0, vaqq1, vaqq2, vaqq3, xaqq4, xaqq5⟩ := ⟨_, _, rfl, haqq4, haqq5⟩
      have hx0aqq : callR eaqq5 (fun b => b < wlaqq.heap.size) [zi vaqq0, zi vaqq1, zi vaqq2, (.slice Avaqq4 xaqq4.length cvaqq4), (.slice Avaqq5 xaqq5.length cvaqq5), zi vaqq3] ⟨vaqq0, vaqq1, vaqq2, vaqq3, xaqq4, xaqq5⟩ := callOk.weak hxaqq fun b hb e => by omega
      have hB5aqq := kaqq5.blk hblaqq (Nat.ne_of_gt hgXaq)
      have m5zaqq := kaqq5.size
      refine Exists.intro Alaqq (Exists.intro tlaqq.length (Exists.intro claqq (And.intro (cellB hB5aqq rfl) ?_)))
      refine loadN_row (vs := [zi vaqq0, zi vaqq1, zi vaqq2, (.slice Avaqq4 xaqq4.length cvaqq4), (.slice Avaqq5 xaqq5.length cvaqq5), zi vaqq3]) (rowB baqq5) rfl ?_
      have own5aqq := own_mod kaqq5 ownaqq (fun b hb e => by have := (hownaqq b hb).1; omega)
      have n6aqq := New.alloc eaqq5 (.cells [zi vaqq0, zi vaqq1, zi vaqq2, (.slice Avaqq4 xaqq4.length cvaqq4), (.slice Avaqq5 xaqq5.length cvaqq5), zi vaqq3].toArray 50)
      refine append2_ ok rfl rfl rfl rfl (own_new n6aqq own5aqq) rfl rfl (row_alloc eaqq5 [zi vaqq0, zi vaqq1, zi vaqq2, (.slice Avaqq4 xaqq4.length cvaqq4), (.slice Avaqq5 xaqq5.length cvaqq5), zi vaqq3] _ _) rfl (callOk.one hx0aqq) (by decide) rfl (by show (tlaqq.length + 1) * 80 ≤ _; omega) (by omega) (Nat.le_trans (by omega) n6aqq.size) ?_
      intro A7 c7 w7 own7 mod7 st7
      have k57 : Mod (fun b => some b = (Value.slice Alaqq tlaqq.length claqq).ownBlock) eaqq5 w7 := Mod.trans n6aqq.mod mod7 fun _ _ e => e
      have hl : (tlaqq ++ [([zi vaqq0, zi vaqq1, zi vaqq2, (.slice Avaqq4 xaqq4.length cvaqq4), (.slice Avaqq5 xaqq5.length cvaqq5), zi vaqq3], (⟨vaqq0, vaqq1, vaqq2, vaqq3, xaqq4, xaqq5⟩ : Call))]).length = tlaqq.length + 1 := by simp
      have st : ∀ b, some b = (Value.slice A7 (tlaqq.length + 1) c7).ownBlock → some b = (Value.slice Alaqq tlaqq.length claqq).ownBlock ∨ eaqq5.heap.size ≤ b := fun b e => by
        rcases st7 b e.symm with e | e
        · exact .inl e.symm
        · exact .inr (Nat.le_trans n6aqq.size e)
      have hnew := mem_step (h := g) (g := g) callOk htsaqq hx0aqq (kaqq5.mono fun _ _ e => .inl e) k57 hgzaqq hgzaqq klzaqq (fun b e => hownaqq b e.symm) st
      have hB7 := k57.blk hB5aqq (fun e => by have := (hownaqq _ e.symm).1; omega)
      have p7 := paqq5.modN k57 (fun e => by have := (hownaqq _ e.symm).1; omega) (fun hn a ha e => by have := paq2.low hn a ha; have := (hownaqq _ e.symm).1; omega)
      refine And.intro ⟨_, cellB hB7 rfl⟩ (And.intro (fzB hB7 _) (force_ ?_))
      refine stK hB7 (show (1 : Nat) < 4 by decide) ?_
      intro w8 hB8 m8 s8
      refine hKaqqy ((A7, c7), tlaqq ++ [([zi vaqq0, zi vaqq1, zi vaqq2, (.slice Avaqq4 xaqq4.length cvaqq4), (.slice Avaqq5 xaqq5.length cvaqq5), zi vaqq3], (⟨vaqq0, vaqq1, vaqq2, vaqq3, xaqq4, xaqq5⟩ : Call))], taqq5) _ _ ⟨rfl, rfl, rfl, rfl, rfl, rfl, rfl, trivial⟩ ⟨?_, hl, p7.modN m8 (Nat.ne_of_lt hgXaq) hAXaq, ?_, ?_, ?_, ?_⟩
      · dsimp only
        rw [List.map_append]
        exact hinvaqq.step hzaqq rdaqq
      · exact both (Mod.trans (both klaqq (kaqq5.mono fun _ _ e => .inl e)) k57 fun b hb e => by have := (hownaqq b e.symm).1; omega) (m8.mono fun _ _ e => .inr e)
      · dsimp only
        rw [hl]
        exact hB8
      · dsimp only
        rw [hl, cellsOf_snoc]
        exact own_mod m8 own7 (fun b hb e => by have := (own7.lt b hb).1; omega)
      · intro y hy
        dsimp only at hy ⊢
        rw [hl]
        exact callOk.mod (hnew y hy) (m8.mono fun b hb e => .inl (by omega))
    rintro vaq3 eaq3 fraq3 ⟨xaq3, taq3, haq3, raq3, paq3, maq3, baq3⟩
    have kaq3 : Mod (fun b => b = g) wlaq eaq3 := Mod.trans kaq2 maq3 fun b hb e => by omega
    have rdaq : Reads bs thrF slaq (⟨vaq0, vaq1, vaq2, xaq3⟩ : Thr) taq3 := reads_thr raq0 raq1 raq2 raq3
    obtain ⟨Avaq3, cvaq3, tsvaq3, hevaq3, hrvaq3⟩ := haq3
    have haq3 : LRep callR eaq3 (fun b => b < Xaq + 1) vaq3 xaq3 := ⟨Avaq3, cvaq3, tsvaq3, hevaq3, hrvaq3⟩
    subst hevaq3
    have hxaq : thrR eaq3 (fun b => b < Xaq + 1) [zi vaq0, (.slice Avaq3 xaq3.length cvaq3), zi vaq1, zi vaq2] ⟨vaq0, vaq1, vaq2, xaq3⟩ := ⟨_, rfl, haq3⟩
    have hx0aq : thrR eaq3 (fun b => b < wlaq.heap.size) [zi vaq0, (.slice Avaq3 xaq3.length cvaq3), zi vaq1, zi vaq2] ⟨vaq0, vaq1, vaq2, xaq3⟩ := thrOk.weak hxaq fun b hb e => by omega
    have hB5aq := kaq3.blk hblaq (Nat.ne_of_gt hgXa)
    have m5zaq := kaq3.size
    refine Exists.intro Alaq (Exists.intro tlaq.length (Exists.intro claq (And.intro (cellB hB5aq rfl) ?_)))
    refine loadN_row (vs := [zi vaq0, (.slice Avaq3 xaq3.length cvaq3), zi vaq1, zi vaq2]) (rowB baq3) rfl ?_
    have own5aq := own_mod kaq3 ownaq (fun b hb e => by have := (hownaq b hb).1; omega)
    have n6aq := New.alloc eaq3 (.cells [zi vaq0, (.slice Avaq3 xaq3.length cvaq3), zi vaq1, zi vaq2].toArray 48)
    refine append2_ ok rfl rfl rfl rfl (own_new n6aq own5aq) rfl rfl (row_alloc eaq3 [zi vaq0, (.slice Avaq3 xaq3.length cvaq3), zi vaq1, zi vaq2] _ _) rfl (thrOk.one hx0aq) (by decide) rfl (by show (tlaq.length + 1) * 48 ≤ _; omega) (by omega) (Nat.le_trans (by omega) n6aq.size) ?_
    intro A7 c7 w7 own7 mod7 st7
    have k57 : Mod (fun b => some b = (Value.slice Alaq tlaq.length claq).ownBlock) eaq3 w7 := Mod.trans n6aq.mod mod7 fun _ _ e => e
    have hl : (tlaq ++ [([zi vaq0, (.slice Avaq3 xaq3.length cvaq3), zi vaq1, zi vaq2], (⟨vaq0, vaq1, vaq2, xaq3⟩ : Thr))]).length = tlaq.length + 1 := by simp
    have st : ∀ b, some b = (Value.slice A7 (tlaq.length + 1) c7).ownBlock → some b = (Value.slice Alaq tlaq.length claq).ownBlock ∨ eaq3.heap.size ≤ b := fun b e => by
      rcases st7 b e.symm with e | e
      · exact .inl e.symm
      · exact .inr (Nat.le_trans n6aq.size e)
    have hnew := mem_step (h := g) (g := g) thrOk htsaq hx0aq (kaq3.mono fun _ _ e => .inl e) k57 hgzaq hgzaq klzaq (fun b e => hownaq b e.symm) st
    have hB7 := k57.blk hB5aq (fun e => by have := (hownaq _ e.symm).1; omega)
    have p7 := paq3.modN k57 (fun e => by have := (hownaq _ e.symm).1; omega) (fun hn a ha e => by have := pa7.low hn a ha; have := (hownaq _ e.symm).1; omega)
    refine And.intro ⟨_, cellB hB7 rfl⟩ (And.intro (fzB hB7 _) (force_ ?_))
    refine stK hB7 (show (3 : Nat) < 10 by decide) ?_
    intro w8 hB8 m8 s8
    refine hKaqy ((A7, c7), tlaq ++ [([zi vaq0, (.slice Avaq3 xaq3.length cvaq3), zi vaq1, zi vaq2], (⟨vaq0, vaq1, vaq2, xaq3⟩ : Thr))], taq3) _ _ ⟨rfl, rfl, rfl, rfl, rfl, trivial⟩ ⟨?_, hl, p7.modN m8 (Nat.ne_of_lt hgXa) hAXa, ?_, ?_, ?_, ?_⟩
    · dsimp only
      rw [List.map_append]
      exact hinvaq.step hzaq rdaq
    · exact both (Mod.trans (both klaq (kaq3.mono fun _ _ e => .inl e)) k57 fun b hb e => by have := (hownaq b e.symm).1; omega) (m8.mono fun _ _ e => .inr e)
    · dsimp only
      rw [hl]
      exact hB8
    · dsimp only
      rw [hl, cellsOf_snoc]
      exact own_mod m8 own7 (fun b hb e => by have := (own7.lt b hb).1; omega)
    · intro y hy
      dsimp only at hy ⊢
      rw [hl]
      exact thrOk.mod (hnew y hy) (m8.mono fun b hb e => .inl (by omega))
  rintro va8 ea8 fra8 ⟨xa8, ta8, ha8, ra8, pa8, ma8, ba8⟩
  have ka8 : Mod (fun b => b = g) w2 ea8 := Mod.trans ka7 ma8 fun b hb e => by omega
  replace ha4 := LRep.mod intOk (by decide) ha4 (ma8.mono fun b hb e => by omega)
  replace ha5 := LRep.mod intOk (by decide) ha5 (ma8.mono fun b hb e => by omega)
  replace ha6 := LRep.mod valOk (by decide) ha6 (ma8.mono fun b hb e => by omega)
  replace ha7 := LRep.mod objOk (by decide) ha7 (ma8.mono fun b hb e => by omega)
  refine seq_cut (σ := Value) (fun _ => [(0, .slice A bs.length c), (2, .pointer (some ⟨w.heap.size, 0, none⟩)), (4, .pointer (some ⟨g, 0, none⟩)), (5, .pointer (some ⟨Xa, 0, none⟩))]) (fun v w' => ∃ xs s', LRep monR w' (fun b => b < Xa + 1) v xs ∧ Reads bs (list 4 Image.w4 monF) ta8 xs s' ∧ Jr w' g A c bs s' ∧ Mod (fun b => b = g ∨ b = Xa) ea8 w' ∧ w'.heap[Xa]? = some (.cells #[zi va0, va7, va6, va8, v, zi va1, va4, va5, zi va2, zi va3] 28 (0, 0))) ?_ ?_
  rotate_left
  · intro Kaz hKaz
    have hBzaq := (Array.getElem?_eq_some_iff.1 ba8).1
    have hgzaq := pa8.lt
    refine seq_cut (σ := Int) (fun n => [(0, .slice A bs.length c), (2, .pointer (some ⟨w.heap.size, 0, none⟩)), (4, .pointer (some ⟨g, 0, none⟩)), (5, .pointer (some ⟨Xa, 0, none⟩)), (12, zi n)]) (fun n w' => ∃ s1, Reads bs (num 4 false Image.w4) ta8 n s1 ∧ n ≤ 4294967295 ∧ Jr w' g A c bs s1 ∧ Mod (fun b => b = g) ea8 w' ∧ w'.heap[Xa]? = some (.cells #[zi va0, va7, va6, va8, (.slice none 0 0), zi va1, va4, va5, zi va2, zi va3] 28 (0, 0))) ?_ ?_
    rotate_left
    · intro K2 hK2
      refine call_ (rget_ok g A c bs ta8 false 4 Image.w4 ea8 pa8) ?_
      rintro e wa ⟨n, s1, rfl, rd1, hb, p1, m1⟩
      refine ⟨_, rfl, ?_⟩
      exact hK2 n _ _ ⟨rfl, rfl, rfl, rfl, rfl, trivial⟩ ⟨s1, rd1, (hb (.inr (.inr rfl))).2, p1, m1, m1.blk ba8 (Nat.ne_of_gt hgXa)⟩
    rintro naq wnaq frnaq ⟨snaq, rdnaq, hnaq, pnaq, mnaq, hbnaq⟩
    refine den_loop (σ := ((Option Addr × Nat) × List (List Value × Mon)) × Int × RSt) (fun t => [(0, .slice A bs.length c), (2, .pointer (some ⟨w.heap.size, 0, none⟩)), (4, .pointer (some ⟨g, 0, none⟩)), (5, .pointer (some ⟨Xa, 0, none⟩)), (12, zi t.2.1)])
      (fun m t wl => m = t.2.1.toNat ∧ LInv bs monF ta8 (t.1.2.map (·.2)) t.2.1.toNat t.2.2 ∧ t.2.1.toNat + t.1.2.length ≤ 4294967296 ∧ t.2.1 ≤ 4294967295 ∧ Jr wl g A c bs t.2.2 ∧ Mod (fun b => b = g ∨ b = Xa) ea8 wl ∧ wl.heap[Xa]? = some (.cells #[zi va0, va7, va6, va8, (.slice t.1.1.1 t.1.2.length t.1.1.2), zi va1, va4, va5, zi va2, zi va3] 28 (0, 0)) ∧ wl.ownsRow ea8.heap.size 69 3 (.slice t.1.1.1 t.1.2.length t.1.1.2) t.1.2.length (cellsOf t.1.2) ∧
        ∀ y ∈ t.1.2, monR wl (fun b => b < ea8.heap.size ∨ some b = (Value.slice t.1.1.1 t.1.2.length t.1.1.2).ownBlock) y.1 y.2) naq.toNat (((none, 0), []), naq, snaq)
      ⟨rfl, rfl, rfl, rfl, rfl, trivial⟩ ⟨rfl, LInv.start rdnaq, by simp; omega, hnaq, pnaq, mnaq.mono fun _ _ e => .inl e, hbnaq, ⟨rfl, .inl ⟨rfl, rfl⟩⟩, fun _ h => (by cases h)⟩ ?_
    rintro maq ⟨⟨⟨Alaq, claq⟩, tlaq⟩, qaq, slaq⟩ wlaq frlaq ⟨rfl, hinvaq, hcntaq, hqaq, plaq, klaq, hblaq, ownaq, htsaq⟩
    dsimp only at hinvaq hcntaq hqaq plaq hblaq ownaq htsaq
    have hownaq := fun b (e : (Value.slice Alaq tlaq.length claq).ownBlock = some b) => ownaq.lt b e
    have klzaq := klaq.size
    have finaq : (slaq.2 = false → qaq.toNat = 0) → ∃ xs s', LRep monR wlaq (fun b => b < Xa + 1) (.slice Alaq tlaq.length claq) xs ∧ Reads bs (list 4 Image.w4 monF) ta8 xs s' ∧ Jr wlaq g A c bs s' ∧ Mod (fun b => b = g ∨ b = Xa) ea8 wlaq ∧ wlaq.heap[Xa]? = some (.cells #[zi va0, va7, va6, va8, (.slice Alaq tlaq.length claq), zi va1, va4, va5, zi va2, zi va3] 28 (0, 0)) := fun hz => by
      obtain ⟨A', c', e', h5, h6, row, ho⟩ := own_slice ownaq
      cases e'
      exact ⟨tlaq.map (·.2), slaq, ⟨Alaq, claq, tlaq, by rw [List.length_map], rfl, by rw [List.length_map]; exact h5, h6, by rw [List.length_map]; omega, row, fun a ha _ => ⟨(ho a ha).2.1, by have := (ho a ha).1; omega⟩, fun t ht => monOk.weak (htsaq t ht) fun b _ hb => .inl (by omega)⟩, hinvaq.done hz, plaq, klaq, hblaq⟩
    -- is there one more?
    refine seq_cut (σ := Unit) (fun _ => [(0, .slice A bs.length c), (2, .pointer (some ⟨w.heap.size, 0, none⟩)), (4, .pointer (some ⟨g, 0, none⟩)), (5, .pointer (some ⟨Xa, 0, none⟩)), (12, zi qaq)]) (fun _ w' => w' = wlaq ∧ 0 < qaq ∧ slaq.2 = false) ?_ ?_
    rotate_left
    · intro K2 hK2
      refine if_p (fun hlt => ?_) (fun hge => ?_)
      · refine Exists.intro slaq.2 (And.intro (cellB plaq.blk rfl) ?_)
        refine if_ (fun hz => ?_) (fun hz => ?_)
        · exact hK2 () _ _ ⟨rfl, rfl, rfl, rfl, rfl, trivial⟩ ⟨rfl, hlt, by simpa using hz⟩
        · replace hz : slaq.2 = true := by simpa using hz
          exact hKaz _ _ _ ⟨rfl, rfl, rfl, rfl, trivial⟩ (finaq fun h => by rw [hz] at h; cases h)
      · replace hge : ¬ 0 < qaq := hge
        exact hKaz _ _ _ ⟨rfl, rfl, rfl, rfl, trivial⟩ (finaq fun _ => by omega)
    rintro _ wyaq fryaq ⟨hwyaq, hltaq, hzaq⟩
    obtain rfl := hwyaq.symm
    clear finaq
    obtain ⟨kaq, hkaq⟩ : ∃ k, qaq.toNat = k + 1 := ⟨qaq.toNat - 1, by omega⟩
    rw [hkaq] at hinvaq
    have hk'aq : (qaq - 1).toNat = kaq := by omega
    refine seq_cut (σ := (Option Addr × Nat) × List (List Value × Mon) × RSt) (fun _ => [(0, .slice A bs.length c), (2, .pointer (some ⟨w.heap.size, 0, none⟩)), (4, .pointer (some ⟨g, 0, none⟩)), (5, .pointer (some ⟨Xa, 0, none⟩)), (12, zi qaq)])
      (fun t w' => LInv bs monF ta8 (t.2.1.map (·.2)) kaq t.2.2 ∧ t.2.1.length = tlaq.length + 1 ∧ Jr w' g A c bs t.2.2 ∧ Mod (fun b => b = g ∨ b = Xa) ea8 w' ∧ w'.heap[Xa]? = some (.cells #[zi va0, va7, va6, va8, (.slice t.1.1 t.2.1.length t.1.2), zi va1, va4, va5, zi va2, zi va3] 28 (0, 0)) ∧ w'.ownsRow ea8.heap.size 69 3 (.slice t.1.1 t.2.1.length t.1.2) t.2.1.length (cellsOf t.2.1) ∧
        ∀ y ∈ t.2.1, monR w' (fun b => b < ea8.heap.size ∨ some b = (Value.slice t.1.1 t.2.1.length t.1.2).ownBlock) y.1 y.2) ?_ ?_
    · rintro ⟨⟨A9, c9⟩, t9, s9⟩ w9 fr9 ⟨i1, i2, i3, i4, i5, i6, i7⟩
      dsimp only at i1 i2 i3 i5 i6 i7
      exact ⟨(qaq - 1).toNat, (((A9, c9), t9), qaq - 1, s9), (by dsimp only; omega), ⟨rfl, rfl, rfl, rfl, (show zi (IntKind.i64.wrap (qaq - 1)) = zi (qaq - 1) by rw [wrap_i64 (by omega) (by omega)]), trivial⟩, rfl, by dsimp only; rw [hk'aq]; exact i1, by dsimp only; omega, by dsimp only; omega, i3, i4, i5, i6, i7⟩
    intro Kaqy hKaqy
    refine block_ ?_
    refine seq_cut (σ := Nat) (fun X => [(0, .slice A bs.length c), (2, .pointer (some ⟨w.heap.size, 0, none⟩)), (4, .pointer (some ⟨g, 0, none⟩)), (5, .pointer (some ⟨Xa, 0, none⟩)), (12, zi qaq), (13, .pointer (some ⟨X, 0, none⟩))]) (fun X w' => ∃ (vaq0 : Int) (s' : RSt), Reads bs n8 slaq vaq0 s' ∧ Jr w' g A c bs s' ∧ Mod (fun b => b = g) wlaq w' ∧ wlaq.heap.size ≤ X ∧ X < w'.heap.size ∧ w'.heap[X]? = some (.cells #[zi vaq0, zi 0, zi 0] 69 (0, 0))) ?_ ?_
    rotate_left
    · intro Kaqz hKaqz
      refine call_ (rnumber_ok g A c bs slaq wlaq plaq) ?_
      rintro e wa ⟨vaq0, sa, rfl, rda, pa, ma⟩
      refine ⟨_, rfl, ?_⟩
      refine And.intro rfl ?_
      refine storeNew (vs := [zi vaq0, zi 0, zi 0]) (arr := #[zi 0, zi 0, zi 0]) rfl (ones rfl) ?_
      intro wb hXb nb sb
      have maz := ma.size
      exact hKaqz wa.heap.size _ _ ⟨rfl, rfl, rfl, rfl, rfl, rfl, trivial⟩ ⟨vaq0, sa, rda, pa.new nb, Mod.new ma nb, maz, by omega, hXb⟩
    rintro Xaq eaq0 fraq0 ⟨vaq0, taq0, raq0, paq0, kaq0, hXaq, hXlaq, baq0⟩
    have hgXaq : g < Xaq := Nat.lt_of_lt_of_le plaq.lt hXaq
    have hAXaq : bs ≠ [] → ∀ a, A = some a → ¬ a.block = Xaq := fun hn a ha e => by have := plaq.low hn a ha; omega
    refine seq_cut (σ := Unit) (fun _ => [(0, .slice A bs.length c), (2, .pointer (some ⟨w.heap.size, 0, none⟩)), (4, .pointer (some ⟨g, 0, none⟩)), (5, .pointer (some ⟨Xa, 0, none⟩)), (12, zi qaq), (13, .pointer (some ⟨Xaq, 0, none⟩))]) (fun _ w' => ∃ (vaq1 : Int) (s' : RSt), Reads bs n8 taq0 vaq1 s' ∧ Jr w' g A c bs s' ∧ Mod (fun b => b = g ∨ b = Xaq) eaq0 w' ∧ w'.heap[Xaq]? = some (.cells #[zi vaq0, zi vaq1, zi 0] 69 (0, 0))) ?_ ?_
    rotate_left
    · intro Kaqz hKaqz
      refine call_ (rnumber_ok g A c bs taq0 eaq0 paq0) ?_
      rintro e wa ⟨vaq1, sa, rfl, rda, pa, ma⟩
      refine ⟨_, rfl, ?_⟩
      have hXa := ma.blk baq0 (Nat.ne_of_gt hgXaq)
      refine And.intro ⟨_, cellB hXa rfl⟩ (And.intro (fzB hXa _) (force_ ?_))
      refine stK hXa (show (1 : Nat) < 3 by decide) ?_
      intro wb hXb mb sb
      exact hKaqz () _ _ ⟨rfl, rfl, rfl, rfl, rfl, rfl, trivial⟩ ⟨vaq1, sa, rda, pa.modN mb (Nat.ne_of_lt hgXaq) hAXaq, both (ma.mono fun _ _ e => .inl e) (mb.mono fun _ _ e => .inr e), hXb⟩
    rintro _ eaq1 fraq1 ⟨vaq1, taq1, raq1, paq1, maq1, baq1⟩
    have kaq1 : Mod (fun b => b = g) wlaq eaq1 := Mod.trans kaq0 maq1 fun b hb e => by omega
    refine seq_cut (σ := Unit) (fun _ => [(0, .slice A bs.length c), (2, .pointer (some ⟨w.heap.size, 0, none⟩)), (4, .pointer (some ⟨g, 0, none⟩)), (5, .pointer (some ⟨Xa, 0, none⟩)), (12, zi qaq), (13, .pointer (some ⟨Xaq, 0, none⟩))]) (fun _ w' => ∃ (vaq2 : Int) (s' : RSt), Reads bs n8 taq1 vaq2 s' ∧ Jr w' g A c bs s' ∧ Mod (fun b => b = g ∨ b = Xaq) eaq1 w' ∧ w'.heap[Xaq]? = some (.cells #[zi vaq0, zi vaq1, zi vaq2] 69 (0, 0))) ?_ ?_
    rotate_left
    · intro Kaqz hKaqz
      refine call_ (rnumber_ok g A c bs taq1 eaq1 paq1) ?_
      rintro e wa ⟨vaq2, sa, rfl, rda, pa, ma⟩
      refine ⟨_, rfl, ?_⟩
      have hXa := ma.blk baq1 (Nat.ne_of_gt hgXaq)
      refine And.intro ⟨_, cellB hXa rfl⟩ (And.intro (fzB hXa _) (force_ ?_))
      refine stK hXa (show (2 : Nat) < 3 by decide) ?_
      intro wb hXb mb sb
      exact hKaqz () _ _ ⟨rfl, rfl, rfl, rfl, rfl, rfl, trivial⟩ ⟨vaq2, sa, rda, pa.modN mb (Nat.ne_of_lt hgXaq) hAXaq, both (ma.mono fun _ _ e => .inl e) (mb.mono fun _ _ e => .inr e), hXb⟩
    rintro _ eaq2 fraq2 ⟨vaq2, taq2, raq2, paq2, maq2, baq2⟩
    have kaq2 : Mod (fun b => b = g) wlaq eaq2 := Mod.trans kaq1 maq2 fun b hb e => by omega
    have rdaq : Reads bs monF slaq (⟨vaq0, vaq1, vaq2⟩ : Mon) taq2 := reads_mon raq0 raq1 raq2
    have hxaq : monR eaq2 (fun b => b < Xaq + 1) [zi vaq0, zi vaq1, zi vaq2] ⟨vaq0, vaq1, vaq2⟩ := rfl
    have hx0aq : monR eaq2 (fun b => b < wlaq.heap.size) [zi vaq0, zi vaq1, zi vaq2] ⟨vaq0, vaq1, vaq2⟩ := monOk.weak hxaq fun b hb e => by omega
    have hB5aq := kaq2.blk hblaq (Nat.ne_of_gt hgXa)
    have m5zaq := kaq2.size
    refine Exists.intro Alaq (Exists.intro tlaq.length (Exists.intro claq (And.intro (cellB hB5aq rfl) ?_)))
    refine loadN_row (vs := [zi vaq0, zi vaq1, zi vaq2]) (rowB baq2) rfl ?_
    have own5aq := own_mod kaq2 ownaq (fun b hb e => by have := (hownaq b hb).1; omega)
    have n6aq := New.alloc eaq2 (.cells [zi vaq0, zi vaq1, zi vaq2].toArray 69)
    refine append2_ ok rfl rfl rfl rfl (own_new n6aq own5aq) rfl rfl (row_alloc eaq2 [zi vaq0, zi vaq1, zi vaq2] _ _) rfl (monOk.one hx0aq) (by decide) rfl (by show (tlaq.length + 1) * 24 ≤ _; omega) (by omega) (Nat.le_trans (by omega) n6aq.size) ?_
    intro A7 c7 w7 own7 mod7 st7
    have k57 : Mod (fun b => some b = (Value.slice Alaq tlaq.length claq).ownBlock) eaq2 w7 := Mod.trans n6aq.mod mod7 fun _ _ e => e
    have hl : (tlaq ++ [([zi vaq0, zi vaq1, zi vaq2], (⟨vaq0, vaq1, vaq2⟩ : Mon))]).length = tlaq.length + 1 := by simp
    have st : ∀ b, some b = (Value.slice A7 (tlaq.length + 1) c7).ownBlock → some b = (Value.slice Alaq tlaq.length claq).ownBlock ∨ eaq2.heap.size ≤ b := fun b e => by
      rcases st7 b e.symm with e | e
      · exact .inl e.symm
      · exact .inr (Nat.le_trans n6aq.size e)
    have hnew := mem_step (h := g) (g := g) monOk htsaq hx0aq (kaq2.mono fun _ _ e => .inl e) k57 hgzaq hgzaq klzaq (fun b e => hownaq b e.symm) st
    have hB7 := k57.blk hB5aq (fun e => by have := (hownaq _ e.symm).1; omega)
    have p7 := paq2.modN k57 (fun e => by have := (hownaq _ e.symm).1; omega) (fun hn a ha e => by have := pa8.low hn a ha; have := (hownaq _ e.symm).1; omega)
    refine And.intro ⟨_, cellB hB7 rfl⟩ (And.intro (fzB hB7 _) (force_ ?_))
    refine stK hB7 (show (4 : Nat) < 10 by decide) ?_
    intro w8 hB8 m8 s8
    refine hKaqy ((A7, c7), tlaq ++ [([zi vaq0, zi vaq1, zi vaq2], (⟨vaq0, vaq1, vaq2⟩ : Mon))], taq2) _ _ ⟨rfl, rfl, rfl, rfl, rfl, trivial⟩ ⟨?_, hl, p7.modN m8 (Nat.ne_of_lt hgXa) hAXa, ?_, ?_, ?_, ?_⟩
    · dsimp only
      rw [List.map_append]
      exact hinvaq.step hzaq rdaq
    · exact both (Mod.trans (both klaq (kaq2.mono fun _ _ e => .inl e)) k57 fun b hb e => by have := (hownaq b e.symm).1; omega) (m8.mono fun _ _ e => .inr e)
    · dsimp only
      rw [hl]
      exact hB8
    · dsimp only
      rw [hl, cellsOf_snoc]
      exact own_mod m8 own7 (fun b hb e => by have := (own7.lt b hb).1; omega)
    · intro y hy
      dsimp only at hy ⊢
      rw [hl]
      exact monOk.mod (hnew y hy) (m8.mono fun b hb e => .inl (by omega))
  rintro va9 ea9 fra9 ⟨xa9, ta9, ha9, ra9, pa9, ma9, ba9⟩
  have ka9 : Mod (fun b => b = g) w2 ea9 := Mod.trans ka8 ma9 fun b hb e => by omega
  replace ha4 := LRep.mod intOk (by decide) ha4 (ma9.mono fun b hb e => by omega)
  replace ha5 := LRep.mod intOk (by decide) ha5 (ma9.mono fun b hb e => by omega)
  replace ha6 := LRep.mod valOk (by decide) ha6 (ma9.mono fun b hb e => by omega)
  replace ha7 := LRep.mod objOk (by decide) ha7 (ma9.mono fun b hb e => by omega)
  replace ha8 := LRep.mod thrOk (by decide) ha8 (ma9.mono fun b hb e => by omega)
  have rda : Reads bs machF ((0, false) : RSt) (⟨va0, va1, va2, va3, xa4, xa5, xa6, xa7, xa8, xa9⟩ : Mach) ta9 := reads_mach ra0 ra1 ra2 ra3 ra4 ra5 ra6 ra7 ra8 ra9
  obtain ⟨Ava4, cva4, tsva4, heva4, hrva4⟩ := ha4
  have ha4 : LRep intR ea9 (fun b => b < Xa + 1) va4 xa4 := ⟨Ava4, cva4, tsva4, heva4, hrva4⟩
  subst heva4
  obtain ⟨Ava5, cva5, tsva5, heva5, hrva5⟩ := ha5
  have ha5 : LRep intR ea9 (fun b => b < Xa + 1) va5 xa5 := ⟨Ava5, cva5, tsva5, heva5, hrva5⟩
  subst heva5
  obtain ⟨Ava6, cva6, tsva6, heva6, hrva6⟩ := ha6
  have ha6 : LRep valR ea9 (fun b => b < Xa + 1) va6 xa6 := ⟨Ava6, cva6, tsva6, heva6, hrva6⟩
  subst heva6
  obtain ⟨Ava7, cva7, tsva7, heva7, hrva7⟩ := ha7
  have ha7 : LRep objR ea9 (fun b => b < Xa + 1) va7 xa7 := ⟨Ava7, cva7, tsva7, heva7, hrva7⟩
  subst heva7
  obtain ⟨Ava8, cva8, tsva8, heva8, hrva8⟩ := ha8
  have ha8 : LRep thrR ea9 (fun b => b < Xa + 1) va8 xa8 := ⟨Ava8, cva8, tsva8, heva8, hrva8⟩
  subst heva8
  obtain ⟨Ava9, cva9, tsva9, heva9, hrva9⟩ := ha9
  have ha9 : LRep monR ea9 (fun b => b < Xa + 1) va9 xa9 := ⟨Ava9, cva9, tsva9, heva9, hrva9⟩
  subst heva9
  have hxa : machR ea9 (fun b => b < Xa + 1) [zi va0, (.slice Ava7 xa7.length cva7), (.slice Ava6 xa6.length cva6), (.slice Ava8 xa8.length cva8), (.slice Ava9 xa9.length cva9), zi va1, (.slice Ava4 xa4.length cva4), (.slice Ava5 xa5.length cva5), zi va2, zi va3] ⟨va0, va1, va2, va3, xa4, xa5, xa6, xa7, xa8, xa9⟩ := ⟨_, _, _, _, _, _, rfl, ha7, ha6, ha8, ha9, ha4, ha5⟩
  have hpar := reads_parse rda
  have nw : New w ea9 := Mod.trans n2 ka9 fun b hb e => by omega
  have hZ := ka9.blk hZ2 (by omega)
  have hzX : w.heap.size < Xa := by omega
  -- is it one?
  refine seq_cut (σ := Unit) (fun _ => [(2, .pointer (some ⟨w.heap.size, 0, none⟩)), (5, .pointer (some ⟨Xa, 0, none⟩))]) (fun _ w' => w' = ea9 ∧ parseM bs = some ⟨va0, va1, va2, va3, xa4, xa5, xa6, xa7, xa8, xa9⟩) ?_ ?_
  rotate_left
  · intro K hK
    refine seq_cut (σ := Bool) (fun b => [(2, .pointer (some ⟨w.heap.size, 0, none⟩)), (5, .pointer (some ⟨Xa, 0, none⟩)), (176, .bool b)]) (fun b w' => w' = ea9 ∧ (b = true → parseM bs = none) ∧ (b = false → parseM bs = some ⟨va0, va1, va2, va3, xa4, xa5, xa6, xa7, xa8, xa9⟩)) ?_ ?_
    rotate_left
    · intro K2 hK2
      refine Exists.intro ta9.2 (And.intro (cellB pa9.blk rfl) ?_)
      refine if_ (fun hb => ?_) (fun hb => ?_)
      · exact hK2 true _ _ ⟨rfl, rfl, rfl, trivial⟩ ⟨rfl, fun _ => by rw [hpar, if_neg (fun hc => by rw [hc.1] at hb; cases hb)], fun h => by cases h⟩
      refine Exists.intro (ta9.1 : Int) (And.intro (cellB pa9.blk rfl) ?_)
      refine if_n (fun hl => ?_) (fun hl => ?_)
      · replace hl : ¬ (ta9.1 : Int) = (bs.length : Int) := hl
        exact hK2 true _ _ ⟨rfl, rfl, rfl, trivial⟩ ⟨rfl, fun _ => by rw [hpar, if_neg (fun hc => by have := hc.2.1; omega)], fun h => by cases h⟩
      replace hl : (ta9.1 : Int) = (bs.length : Int) := hl
      refine call_ (rPages_ok bs.length ea9 (by omega)) ?_
      rintro e wb ⟨rfl, hwb⟩
      obtain rfl := hwb.symm
      refine ⟨_, rfl, ?_⟩
      refine hK2 (decide ((4096 : Int) < (pagesOf bs.length : Int))) _ _ ⟨rfl, rfl, rfl, trivial⟩ ⟨rfl, fun h => ?_, fun h => ?_⟩
      · have h4 := (pages_most bs.length).1 (by have := of_decide_eq_true h; omega)
        rw [hpar, if_neg (fun hc => by have := hc.2.2; omega)]
      · have h4 : ¬ most < bs.length := fun hc => by
          have h5 := (pages_most bs.length).2 hc
          have := of_decide_eq_false h
          omega
        rw [hpar, if_pos ⟨hb, by omega, by omega⟩]
    rintro b wa fra ⟨hwa, hb1, hb2⟩
    obtain rfl := hwa.symm
    refine if_ (fun hb => ?_) (fun hb => ?_)
    · refine And.intro rfl ?_
      refine storeN_all (vs := [zi 0, (.slice none 0 0), (.slice none 0 0), (.slice none 0 0), (.slice none 0 0), zi 0, (.slice none 0 0), (.slice none 0 0), zi 0, zi 0]) hZ rfl (ones rfl) ?_
      intro w90 hb90 m90 s90
      refine loadN_row (vs := [zi 0, (.slice none 0 0), (.slice none 0 0), (.slice none 0 0), (.slice none 0 0), zi 0, (.slice none 0 0), (.slice none 0 0), zi 0, zi 0]) (rowB hb90) rfl ?_
      exact pres_none (hb1 hb) (Mod.trans nw m90 fun b hb e => by omega)
    · exact hK () _ _ ⟨rfl, rfl, trivial⟩ ⟨rfl, hb2 hb⟩
  rintro _ wa fra ⟨hwa, hsome⟩
  obtain rfl := hwa.symm
  refine loadN_row (vs := [zi va0, (.slice Ava7 xa7.length cva7), (.slice Ava6 xa6.length cva6), (.slice Ava8 xa8.length cva8), (.slice Ava9 xa9.length cva9), zi va1, (.slice Ava4 xa4.length cva4), (.slice Ava5 xa5.length cva5), zi va2, zi va3]) (rowB ba9) rfl ?_
  refine And.intro rfl ?_
  refine storeN_all (vs := [zi va0, (.slice Ava7 xa7.length cva7), (.slice Ava6 xa6.length cva6), (.slice Ava8 xa8.length cva8), (.slice Ava9 xa9.length cva9), zi va1, (.slice Ava4 xa4.length cva4), (.slice Ava5 xa5.length cva5), zi va2, zi va3]) hZ rfl (machOk.one hxa) ?_
  intro w90 hb90 m90 s90
  refine loadN_row (vs := [zi va0, (.slice Ava7 xa7.length cva7), (.slice Ava6 xa6.length cva6), (.slice Ava8 xa8.length cva8), (.slice Ava9 xa9.length cva9), zi va1, (.slice Ava4 xa4.length cva4), (.slice Ava5 xa5.length cva5), zi va2, zi va3]) (rowB hb90) rfl ?_
  have he0 : perr bs = 0 := by
    unfold perr
    rw [hsome]
  refine ⟨[zi va0, (.slice Ava7 xa7.length cva7), (.slice Ava6 xa6.length cva6), (.slice Ava8 xa8.length cva8), (.slice Ava9 xa9.length cva9), zi va1, (.slice Ava4 xa4.length cva4), (.slice Ava5 xa5.length cva5), zi va2, zi va3], by rw [he0]; rfl, ?_, Mod.trans nw m90 fun b hb e => by omega⟩
  rw [hsome]
  exact machOk.weak (machOk.mod hxa (m90.mono fun b hb e => by omega)) fun b hb e => by omega
end Go.Proofs.Yteanhakkceancaa.Image

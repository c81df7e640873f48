/- The texts KRead7, KWrite4, KWrite5, KPrint, PReadP, KParse, KWorks, KOpen, KLight, KLaw behind one another, merged by mrg.py; each says in its own place what it proves. -/
import Derived.Test.YtdcaafldnbcdkaaDoorTab
import Derived.Test.YtdcaafldnbcdkaaDoorGD3

/-! ### KRead7 -/
namespace Go.Proofs.YtdcaafldnbcdkaaDoor.Class
open Go Go.Proofs.YtdcaafldnbcdkaaDoor Go.Proofs.YtdcaafldnbcdkaaDoor.Eng Go.Proofs Go.Proofs.YtdcaafldnbcdkaaDoor.Word Go.Proofs.YtdcaafldnbcdkaaDoor.Fmt
open Go.Proofs.YtdcaafldnbcdkaaDoor.Pool (rd_modN rd_low RS Ent at_ poolF strV entC entV EntOk Pl OkPool both own_low tagAt)
set_option maxRecDepth 10000

theorem one_rfld (n1 : Int) (z1 z2 : List UInt8) : ∀ u ∈ [zi n1, strV z1, strV z2], u.oneCell' = true := fun u hu => by
  simp only [List.mem_cons, List.not_mem_nil, or_false] at hu
  rcases hu with rfl | rfl | rfl <;> rfl
theorem one_rmth (n1 : Int) (z1 z2 : List UInt8) (a b : Int) (A1 A2 A3 : Option Addr) (n1' c1 n2 c2 n3 c3 : Nat) : ∀ u ∈ [zi n1, strV z1, strV z2, zi a, zi b, Value.slice A1 n1' c1, Value.slice A2 n2 c2, Value.slice A3 n3 c3], u.oneCell' = true := fun u hu => by
  simp only [List.mem_cons, List.not_mem_nil, or_false] at hu
  rcases hu with rfl | rfl | rfl | rfl | rfl | rfl | rfl | rfl <;> rfl
theorem storeN_atX {a : Addr} {g j : Nat} {t : TypeId} {K : World → Prop} {vs : List Value} {w : World} {arr : Array Value} (h0 : a = ⟨g, j, none⟩) (hg : w.heap[g]? = some (.cells arr t (0, 0))) (hb : j + vs.length ≤ arr.size) (h1 : ∀ v ∈ vs, v.oneCell' = true)
    (hk : ∀ w', w'.heap[g]? = some (.cells (arr.toList.take j ++ vs ++ arr.toList.drop (j + vs.length)).toArray t (0, 0)) → Mod (fun k => k = g) w w' → w'.heap.size = w.heap.size → K w') : storeN a vs 0 w K := by
  subst h0
  exact storeN_row hg hb h1 hk
theorem rfld_ok (h g : Nat) (A : Option Addr) (c : Nat) (bs : List UInt8) (p : Po) (s : RSt) (w : World) (q : Ir w h g A c bs p s) (hO : OkPool p.l) (X : Nat) (hX : w.heap[X]? = some (.cells #[.pointer (some ⟨h, 0, none⟩)] 104 (0, 0))) (hXn : ¬ RS h g X) :
    Calls Tryd.prog 63 #[.pointer (some ⟨X, 0, none⟩)] w fun e w' => ∃ cs x s', e = .returned (.agg (List.toArray cs)) ∧ fldR w' (fun b => b < w.heap.size) cs x ∧ Rd (fldT p.l) bs s x s' ∧ cFld x ≤ 0 * (s'.1 - s.1) + 8 ∧ On s s' ∧ Ir w' h g A c bs p s' ∧ Mod (RS h g) w w' ∧ i64 x.acc := by
  refine enter ok Tryd.func63 rfl rfl rfl ?_
  obtain ⟨V, hV⟩ : ∃ V, V = w.heap.size := ⟨_, rfl⟩
  have hXw : X < w.heap.size := (Array.getElem?_eq_some_iff.1 hX).1
  refine seq_cut (σ := Unit) (fun _ => [(0, .pointer (some ⟨X, 0, none⟩)), (1, .pointer (some ⟨V, 0, none⟩))]) (fun _ w' => New w w' ∧ w'.heap[V]? = some (.cells #[zi 0, strV [], strV []] 44 (0, 0))) ?_ ?_
  rotate_left
  · intro K hK
    rw [hV] at hK
    exact hK () _ _ ⟨rfl, rfl, trivial⟩ ⟨New.alloc w _, heap_alloc_new w (.cells #[zi 0, strV [], strV []] 44)⟩
  rintro _ w0 fr0 ⟨n0, hV0⟩
  have q0 := q.new n0
  have hX0 := n0.blk hX
  have hVn : ∀ b, Iin h g A bs p b → b ≠ V := fun b hb e => by have := q.lt hb; omega
  have hVr : ¬ RS h g V := fun e => by
    rcases e with e | e
    · exact hVn _ (.inr (.inl rfl)) e.symm
    · exact hVn _ (.inl rfl) e.symm
  have hVl : V < w0.heap.size := (Array.getElem?_eq_some_iff.1 hV0).1
  have hz0 := n0.size
  refine seq_cut (σ := Nat × Int) (fun t => [(0, .pointer (some ⟨X, 0, none⟩)), (1, .pointer (some ⟨V, 0, none⟩)), (2, .pointer (some ⟨t.1, 0, none⟩))]) (fun t w' => ∃ s1, Rd Class.n2 bs s t.2 s1 ∧ (0 ≤ t.2 ∧ t.2 < 65536) ∧ On s s1 ∧ Ir w' h g A c bs p s1 ∧ Mod (RS h g) w0 w' ∧ w0.heap.size ≤ t.1 ∧ w'.heap[t.1]? = some (.cells #[zi t.2, strV [], strV []] 44 (0, 0))) ?_ ?_
  rotate_left
  · intro K hK
    refine Exists.intro (some ⟨h, 0, none⟩) (And.intro (cell0 hX0) ?_)
    refine call_ (u_ok h g A c bs p s 2 Pool.w2 w0 q0) ?_
    rintro e w1 ⟨n, s1, rfl, r1, hb1, hp1, q1, m1⟩
    refine ⟨_, rfl, ?_⟩
    refine And.intro rfl ?_
    refine storeNew (vs := [zi n, strV [], strV []]) (arr := #[zi 0, strV [], strV []]) rfl (one_rfld _ [] []) ?_
    intro w2 hb2 n2 s2
    exact hK (w1.heap.size, n) _ _ ⟨rfl, rfl, rfl, trivial⟩ ⟨s1, r1, hb1, hp1, q1.new n2, both m1 n2.mod, m1.size, hb2⟩
  rintro ⟨E, n1⟩ w1 fr1 ⟨s1, r1, hb1, o1, q1, m1, hEw, hE1⟩
  dsimp only at r1 hb1 hEw hE1
  have hz1 := m1.size
  have hE0 : ∀ b, Iin h g A bs p b → b ≠ E := fun b hb e => by have := q0.lt hb; omega
  have hEr : ¬ RS h g E := fun e => by
    rcases e with e | e
    · exact hE0 _ (.inr (.inl rfl)) e.symm
    · exact hE0 _ (.inl rfl) e.symm
  have hX1 := m1.blk hX0 hXn
  have hV1 := m1.blk hV0 hVr
  have hrs1 : ∀ b, RS h g b → b < w.heap.size := fun b e => q.lt (by rcases e with e | e; exact .inr (.inl e); exact .inl e)
  refine seq_cut (σ := List UInt8) (fun _ => [(0, .pointer (some ⟨X, 0, none⟩)), (1, .pointer (some ⟨V, 0, none⟩)), (2, .pointer (some ⟨E, 0, none⟩))]) (fun z w' => ∃ s', Rd (utfT p.l) bs s1 z s' ∧ On s1 s' ∧ Ir w' h g A c bs p s' ∧ Mod (fun b => RS h g b ∨ b = E) w1 w' ∧ w'.heap[X]? = some (.cells #[.pointer (some ⟨h, 0, none⟩)] 104 (0, 0)) ∧ w'.heap[V]? = some (.cells #[zi 0, strV [], strV []] 44 (0, 0)) ∧ w'.heap[E]? = some (.cells #[zi n1, strV z, strV []] 44 (0, 0))) ?_ ?_
  rotate_left
  · intro K hK
    refine Exists.intro (some ⟨h, 0, none⟩) (And.intro (cell0 hX1) ?_)
    refine call_ (rtext_ok h g A c bs p s1 w1 q1 hO) ?_
    rintro e wa ⟨z, sa, rfl, ra, hpa, qa, ma⟩
    refine ⟨_, rfl, ?_⟩
    have hEa := ma.blk hE1 hEr
    refine And.intro ⟨_, cellB hEa rfl⟩ (And.intro (fzB hEa _) (force_ ?_))
    refine stK hEa (show (1 : Nat) < 3 by decide) ?_
    intro wb hEb mb sb
    exact hK z _ _ ⟨rfl, rfl, rfl, trivial⟩ ⟨sa, ra, hpa, qa.modN mb (fun b hb e => hE0 b hb e), Mod.trans (ma.mono fun _ _ e => .inl e) mb fun _ _ e => .inr e, mb.blk (ma.blk hX1 hXn) (show ¬ X = E by omega), mb.blk (ma.blk hV1 hVr) (show ¬ V = E by omega), hEb⟩
  rintro z1 w2 fr2 ⟨s2, r2, o2, q2, m2, hX2, hV2, hE2⟩
  have hz2 := m2.size
  refine seq_cut (σ := List UInt8) (fun _ => [(0, .pointer (some ⟨X, 0, none⟩)), (1, .pointer (some ⟨V, 0, none⟩)), (2, .pointer (some ⟨E, 0, none⟩))]) (fun z w' => ∃ s', Rd (utfT p.l) bs s2 z s' ∧ On s2 s' ∧ Ir w' h g A c bs p s' ∧ Mod (fun b => RS h g b ∨ b = E) w2 w' ∧ w'.heap[X]? = some (.cells #[.pointer (some ⟨h, 0, none⟩)] 104 (0, 0)) ∧ w'.heap[V]? = some (.cells #[zi 0, strV [], strV []] 44 (0, 0)) ∧ w'.heap[E]? = some (.cells #[zi n1, strV z1, strV z] 44 (0, 0))) ?_ ?_
  rotate_left
  · intro K hK
    refine Exists.intro (some ⟨h, 0, none⟩) (And.intro (cell0 hX2) ?_)
    refine call_ (rtext_ok h g A c bs p s2 w2 q2 hO) ?_
    rintro e wa ⟨z, sa, rfl, ra, hpa, qa, ma⟩
    refine ⟨_, rfl, ?_⟩
    have hEa := ma.blk hE2 hEr
    refine And.intro ⟨_, cellB hEa rfl⟩ (And.intro (fzB hEa _) (force_ ?_))
    refine stK hEa (show (2 : Nat) < 3 by decide) ?_
    intro wb hEb mb sb
    exact hK z _ _ ⟨rfl, rfl, rfl, trivial⟩ ⟨sa, ra, hpa, qa.modN mb (fun b hb e => hE0 b hb e), Mod.trans (ma.mono fun _ _ e => .inl e) mb fun _ _ e => .inr e, mb.blk (ma.blk hX2 hXn) (show ¬ X = E by omega), mb.blk (ma.blk hV2 hVr) (show ¬ V = E by omega), hEb⟩
  rintro z2 w3 fr3 ⟨s3, r3, o3, q3, m3, hX3, hV3, hE3⟩
  have hz3 := m3.size
  refine seq_cut (σ := Int) (fun _ => [(0, .pointer (some ⟨X, 0, none⟩)), (1, .pointer (some ⟨V, 0, none⟩)), (2, .pointer (some ⟨E, 0, none⟩))]) (fun n w' => ∃ s', Rd Class.n2 bs s3 n s' ∧ On s3 s' ∧ Ir w' h g A c bs p s' ∧ Mod (RS h g) w3 w') ?_ ?_
  rotate_left
  · intro K hK
    refine Exists.intro (some ⟨h, 0, none⟩) (And.intro (cell0 hX3) ?_)
    refine call_ (u_ok h g A c bs p s3 2 Pool.w2 w3 q3) ?_
    rintro e wa ⟨na, sa, rfl, ra, hba, hpa, qa, ma⟩
    refine ⟨_, rfl, ?_⟩
    exact hK na _ _ ⟨rfl, rfl, rfl, trivial⟩ ⟨sa, ra, hpa, qa, ma⟩
  rintro k4 w4 fr4 ⟨s4, r4, o4, q4, m4'⟩
  have hX4 := m4'.blk hX3 hXn
  have hV4 := m4'.blk hV3 hVr
  have hE4 := m4'.blk hE3 hEr
  have m4 := m4'.mono (show ∀ b, b < w3.heap.size → RS h g b → RS h g b ∨ b = E from fun _ _ e => .inl e)
  have hz4 := m4.size
  refine loadN_row (vs := [zi n1, strV z1, strV z2]) (rowB hE4) rfl ?_
  refine And.intro rfl ?_
  refine storeN_all (vs := [zi n1, strV z1, strV z2]) hV4 rfl (one_rfld _ _ _) ?_
  intro wf hbf mf sf
  refine loadN_row (vs := [zi n1, strV z1, strV z2]) (rowB hbf) rfl ?_
  refine ⟨_, ⟨n1, z1, z2⟩, s4, rfl, rfl, ?_, by show 8 ≤ _; omega, o1.trans (o2.trans (o3.trans (o4))), q4.modN mf (fun b hb e => hVn b hb e), Mod.trans (Mod.trans (Mod.trans n0.mod m1 fun _ _ e => e) (both (both (m2) m3) m4) fun b hb e => e.elim id fun e => by omega) mf fun b hb e => by omega, by unfold i64; dsimp only; omega⟩
  exact RdS.byP (f := fun f : Fld => (f.acc, f.name, f.typ, 0)) (y := ⟨n1, z1, z2⟩) (RdS.seq (r1.S fun _ => True) (RdS.seq (r2.S fun _ => True) (RdS.seq (r3.S fun _ => True) (RdS.num (m := 0) r4)))) (fun z hz => ⟨trivial, trivial, trivial, rfl⟩) (fun z e => by cases z; cases e; rfl)

theorem members_fld (h g : Nat) (A : Option Addr) (c : Nat) (bs : List UInt8) (p : Po) (s : RSt) (w : World) (q : Ir w h g A c bs p s) (hO : OkPool p.l) (X : Nat) (hX : w.heap[X]? = some (.cells #[.pointer (some ⟨h, 0, none⟩)] 104 (0, 0))) (hXn : ¬ RS h g X) (hm : bs.length ≤ 1000000) :
    Calls Tryd.prog 62 #[.pointer (some ⟨h, 0, none⟩), .func (.func 63) #[] #[.pointer (some ⟨X, 0, none⟩)]] w fun e w' => ∃ v xs s', e = .returned v ∧ LRep fldR w' (fun b => b < w.heap.size) v xs ∧ Rd (lstT (fldT p.l) 256 (by decide)) bs s xs s' ∧ csum cFld xs ≤ (0 + 8) * (s'.1 - s.1) + 8 ∧ xs.length ≤ (s'.1 - s.1) + 1 ∧ On s s' ∧ Ir w' h g A c bs p s' ∧ Mod (RS h g) w w' ∧ ∀ x ∈ xs, (fun x : Fld => i64 x.acc) x := by
  refine enter ok Tryd.func62 rfl rfl rfl ?_
  have low : ∀ b, (RS h g) b → b < w.heap.size := fun b e => q.lt (by rcases e with e | e; exact .inr (.inl e); exact .inl e)
  refine seq_assign ?_
  refine seq_assign ?_
  refine seq_cut (σ := (Option Addr × Nat) × List (List Value × Fld)) (fun t => [(5, .slice t.1.1 t.2.length t.1.2)]) (fun t w' => ∃ s', LRep fldR w' (fun b => b < w.heap.size) (.slice t.1.1 t.2.length t.1.2) (t.2.map (·.2)) ∧ Rd (lstT (fldT p.l) 256 (by decide)) bs s (t.2.map (·.2)) s' ∧ csum cFld (t.2.map (·.2)) ≤ (0 + 8) * (s'.1 - s.1) + 8 ∧ (t.2.map (·.2)).length ≤ (s'.1 - s.1) + 1 ∧ On s s' ∧ Ir w' h g A c bs p s' ∧ Mod (RS h g) w w' ∧ ∀ x ∈ t.2.map (·.2), (fun x : Fld => i64 x.acc) x) ?_ ?_
  · rintro t w1 fr1 ⟨s', h1, h2, h3, h4, h5, h6, h8, h7⟩
    exact ⟨_, _, s', rfl, h1, h2, h3, h4, h5, h6, h8, h7⟩
  intro K hK
  refine seq_cut (σ := Int) (fun n => [(0, .pointer (some ⟨h, 0, none⟩)), (1, .func (.func 63) #[] #[.pointer (some ⟨X, 0, none⟩)]), (5, .slice none 0 0), (6, zi n)]) (fun n w' => ∃ s1, Rd n2 bs s n s1 ∧ (0 ≤ n ∧ n < 65536) ∧ On s s1 ∧ Ir w' h g A c bs p s1 ∧ Mod (RS h g) w w' ∧ Mod (RS h g) w w') ?_ ?_
  rotate_left
  · intro K2 hK2
    refine call_ (u_ok h g A c bs p s 2 Pool.w2 w q) ?_
    rintro e w1 ⟨n, s1, rfl, rd1, hb, o1, p1, m1⟩
    refine ⟨_, rfl, ?_⟩
    exact hK2 n _ _ ⟨rfl, rfl, rfl, rfl, trivial⟩ ⟨s1, rd1, hb, o1, p1, m1.mono fun b hb e => e, m1⟩
  rintro n w1 fr1 ⟨s1, rd1, hn, o1, p1, m1, m1'⟩
  refine den_loop (σ := ((Option Addr × Nat) × List (List Value × Fld)) × Int × RSt) (fun t => [(0, .pointer (some ⟨h, 0, none⟩)), (1, .func (.func 63) #[] #[.pointer (some ⟨X, 0, none⟩)]), (5, .slice t.1.1.1 t.1.2.length t.1.1.2), (6, zi t.2.1)])
    (fun m t wl => m = t.2.1.toNat ∧ LRd (fldT p.l) 256 bs s (t.1.2.map (·.2)) t.2.1.toNat t.2.2 ∧ t.2.1.toNat + t.1.2.length ≤ 65536 ∧ t.2.1 ≤ 65536 ∧ On s t.2.2 ∧ Ir wl h g A c bs p t.2.2 ∧ Mod (RS h g) w wl ∧ LCo cFld 0 8 s (t.1.2.map (·.2)) t.2.2 ∧ wl.ownsRow w.heap.size 44 3 (.slice t.1.1.1 t.1.2.length t.1.1.2) t.1.2.length (cellsOf t.1.2) ∧
      (∀ y ∈ t.1.2, fldR wl (fun b => b < w.heap.size ∨ some b = (Value.slice t.1.1.1 t.1.2.length t.1.1.2).ownBlock) y.1 y.2) ∧ ∀ x ∈ t.1.2.map (·.2), (fun x : Fld => i64 x.acc) x) n.toNat (((none, 0), []), n, s1)
    ⟨rfl, rfl, rfl, rfl, trivial⟩ ⟨rfl, LRd.start (by decide) rd1, by simp; omega, by dsimp only; omega, o1, p1, m1, LCo.start, ⟨rfl, .inl ⟨rfl, rfl⟩⟩, (fun _ h => (by cases h)), (fun _ h => (by cases h))⟩ ?_
  rintro m ⟨⟨⟨Al, cl⟩, ts⟩, z, s2⟩ wl frl ⟨rfl, hinv, hcnt, hz65, on2, pl, kl, hco, own, hts, hfine⟩
  dsimp only at hinv hcnt hz65 on2 pl kl hco own hts hfine
  have hown := fun b (e : (Value.slice Al ts.length cl).ownBlock = some b) => own.lt b e
  have klz := kl.size
  have fin : (s2.2 = false → z.toNat = 0) → id (∃ s', LRep fldR wl (fun b => b < w.heap.size) (.slice Al ts.length cl) (ts.map (·.2)) ∧ Rd (lstT (fldT p.l) 256 (by decide)) bs s (ts.map (·.2)) s' ∧ csum cFld (ts.map (·.2)) ≤ (0 + 8) * (s'.1 - s.1) + 8 ∧ (ts.map (·.2)).length ≤ (s'.1 - s.1) + 1 ∧ On s s' ∧ Ir wl h g A c bs p s' ∧ Mod (RS h g) w wl ∧ ∀ x ∈ ts.map (·.2), (fun x : Fld => i64 x.acc) x) := fun hz => by
    obtain ⟨A', c', e', h5, h6, row, ho⟩ := own_slice own
    cases e'
    exact ⟨s2, ⟨Al, cl, ts, by rw [List.length_map], rfl, by rw [List.length_map]; exact h5, h6, by rw [List.length_map]; omega, row, fun a ha _ => ⟨(ho a ha).2.1, by have := (ho a ha).1; omega⟩, fun t ht => fldOk.weak (hts t ht) fun b _ hb => .inl hb⟩, hinv.done hz, hco.le.1, hco.le.2, on2, pl, kl, hfine⟩
  refine if_p (fun hlt => ?_) (fun hge => ?_)
  · replace hlt : 0 < z := hlt
    refine Exists.intro s2.2 (And.intro (cellB pl.blk rfl) ?_)
    refine if_ (fun hz => ?_) (fun hz => ?_)
    · replace hz : s2.2 = false := by simpa using hz
      obtain ⟨k, hk⟩ : ∃ k, z.toNat = k + 1 := ⟨z.toNat - 1, by omega⟩
      rw [hk] at hinv
      have hk' : (z - 1).toNat = k := by omega
      refine call_ (rfld_ok h g A c bs p s2 wl pl hO X (kl.blk hX hXn) hXn) ?_
      rintro e w5 ⟨cs, x, s5, he, hx, rd5, hcost5, hprog5, p5, m5, hfx⟩
      subst he
      have hx0 := hx
      obtain rfl := hx
      refine ⟨_, rfl, ?_⟩
      have m5z := m5.size
      have hnR : ∀ b, w.heap.size ≤ b → ¬ (RS h g) b := fun b hb e => by have := low b e; omega
      have own5 := own_mod m5 own (fun b hb => hnR b (hown b hb).1)
      have n6 := New.alloc w5 (.cells [zi x.acc, strV x.name, strV x.typ].toArray 44)
      refine append2_ ok rfl rfl rfl rfl (own_new n6 own5) rfl rfl (row_alloc w5 [zi x.acc, strV x.name, strV x.typ] _ _) rfl (fldOk.one hx0) (by decide) rfl (by show (ts.length + 1) * 40 ≤ _; omega) (by omega) (Nat.le_trans (by omega) n6.size) ?_
      intro A7 c7 w7 own7 mod7 st7
      have k57 : Mod (fun b => some b = (Value.slice Al ts.length cl).ownBlock) w5 w7 := Mod.trans n6.mod mod7 fun _ _ e => e
      have hl : (ts ++ [([zi x.acc, strV x.name, strV x.typ], x)]).length = ts.length + 1 := by simp
      have st : ∀ b, some b = (Value.slice A7 (ts.length + 1) c7).ownBlock → some b = (Value.slice Al ts.length cl).ownBlock ∨ w5.heap.size ≤ b := fun b e => by
        rcases st7 b e.symm with e | e
        · exact .inl e.symm
        · exact .inr (Nat.le_trans n6.size e)
      have hnew := mem_stepS fldOk hts hx0 m5 low k57 klz (fun b e => hown b e.symm) st
      have pow := q.loc p5 k57 fun b e => (hown _ e.symm).1
      refine ⟨(z - 1).toNat, (((A7, c7), ts ++ [([zi x.acc, strV x.name, strV x.typ], x)]), z - 1, s5), (by dsimp only; omega), ⟨rfl, rfl, (show Value.slice A7 (ts.length + 1) c7 = .slice A7 (ts ++ [([zi x.acc, strV x.name, strV x.typ], x)]).length c7 by rw [hl]), (show zi (IntKind.i64.wrap (z - 1)) = zi (z - 1) by rw [wrap_i64 (by omega) (by omega)]), trivial⟩, rfl, ?_, ?_, by dsimp only; omega, on2.trans hprog5, pow, ?_, ?_, ?_, ?_, ?_⟩
      · dsimp only
        rw [hk', List.map_append]
        exact hinv.step rd5
      · dsimp only
        rw [hl]
        omega
      · exact Mod.trans (both kl m5) k57 fun b hb e => by have := hown b e.symm; omega
      · dsimp only
        rw [List.map_append]
        exact hco.step hinv.1 hz hcost5 hprog5
      · dsimp only
        rw [hl, cellsOf_snoc]
        exact own7
      · dsimp only
        rw [hl]
        exact hnew
      · dsimp only
        intro y hy
        rw [List.map_append, List.mem_append] at hy
        rcases hy with hy | hy
        · exact hfine y hy
        · rw [List.mem_singleton.1 hy]
          exact hfx
    · replace hz : s2.2 = true := by simpa using hz
      exact hK ((Al, cl), ts) _ _ ⟨rfl, trivial⟩ (fin fun h => by rw [hz] at h; cases h)
  · replace hge : ¬ 0 < z := hge
    exact hK ((Al, cl), ts) _ _ ⟨rfl, trivial⟩ (fin fun _ => by omega)
theorem rmth_ok (h g : Nat) (A : Option Addr) (c : Nat) (bs : List UInt8) (p : Po) (s : RSt) (w : World) (q : Ir w h g A c bs p s) (hO : OkPool p.l) (X : Nat) (hX : w.heap[X]? = some (.cells #[.pointer (some ⟨h, 0, none⟩)] 104 (0, 0))) (hXn : ¬ RS h g X) (hm : bs.length ≤ 1000000) :
    Calls Tryd.prog 66 #[.pointer (some ⟨X, 0, none⟩)] w fun e w' => ∃ cs x s', e = .returned (.agg (List.toArray cs)) ∧ mthR w' (fun b => b < w.heap.size) cs x ∧ Rd (mthT p.l) bs s x s' ∧ cMth x ≤ 22 * (s'.1 - s.1) + 58 ∧ On s s' ∧ Ir w' h g A c bs p s' ∧ Mod (RS h g) w w' ∧ i64 x.acc := by
  refine enter ok Tryd.func66 rfl rfl rfl ?_
  obtain ⟨V, hV⟩ : ∃ V, V = w.heap.size := ⟨_, rfl⟩
  have hXw : X < w.heap.size := (Array.getElem?_eq_some_iff.1 hX).1
  refine seq_cut (σ := Unit) (fun _ => [(0, .pointer (some ⟨X, 0, none⟩)), (1, .pointer (some ⟨V, 0, none⟩))]) (fun _ w' => New w w' ∧ w'.heap[V]? = some (.cells #[zi 0, strV [], strV [], zi 0, zi 0, .slice none 0 0, .slice none 0 0, .slice none 0 0] 36 (0, 0))) ?_ ?_
  rotate_left
  · intro K hK
    rw [hV] at hK
    exact hK () _ _ ⟨rfl, rfl, trivial⟩ ⟨New.alloc w _, heap_alloc_new w (.cells #[zi 0, strV [], strV [], zi 0, zi 0, .slice none 0 0, .slice none 0 0, .slice none 0 0] 36)⟩
  rintro _ w0 fr0 ⟨n0, hV0⟩
  have q0 := q.new n0
  have hX0 := n0.blk hX
  have hVn : ∀ b, Iin h g A bs p b → b ≠ V := fun b hb e => by have := q.lt hb; omega
  have hVr : ¬ RS h g V := fun e => by
    rcases e with e | e
    · exact hVn _ (.inr (.inl rfl)) e.symm
    · exact hVn _ (.inl rfl) e.symm
  have hVl : V < w0.heap.size := (Array.getElem?_eq_some_iff.1 hV0).1
  have hz0 := n0.size
  refine seq_cut (σ := Nat × Int) (fun t => [(0, .pointer (some ⟨X, 0, none⟩)), (1, .pointer (some ⟨V, 0, none⟩)), (2, .pointer (some ⟨t.1, 0, none⟩))]) (fun t w' => ∃ s1, Rd Class.n2 bs s t.2 s1 ∧ (0 ≤ t.2 ∧ t.2 < 65536) ∧ On s s1 ∧ Ir w' h g A c bs p s1 ∧ Mod (RS h g) w0 w' ∧ w0.heap.size ≤ t.1 ∧ w'.heap[t.1]? = some (.cells #[zi t.2, strV [], strV [], zi 0, zi 0, .slice none 0 0, .slice none 0 0, .slice none 0 0] 36 (0, 0))) ?_ ?_
  rotate_left
  · intro K hK
    refine Exists.intro (some ⟨h, 0, none⟩) (And.intro (cell0 hX0) ?_)
    refine call_ (u_ok h g A c bs p s 2 Pool.w2 w0 q0) ?_
    rintro e w1 ⟨n, s1, rfl, r1, hb1, hp1, q1, m1⟩
    refine ⟨_, rfl, ?_⟩
    refine And.intro rfl ?_
    refine storeNew (vs := [zi n, strV [], strV [], zi 0, zi 0, .slice none 0 0, .slice none 0 0, .slice none 0 0]) (arr := #[zi 0, strV [], strV [], zi 0, zi 0, .slice none 0 0, .slice none 0 0, .slice none 0 0]) rfl (one_rmth _ [] [] _ _ _ _ _ _ _ _ _ _ _) ?_
    intro w2 hb2 n2 s2
    exact hK (w1.heap.size, n) _ _ ⟨rfl, rfl, rfl, trivial⟩ ⟨s1, r1, hb1, hp1, q1.new n2, both m1 n2.mod, m1.size, hb2⟩
  rintro ⟨E, n1⟩ w1 fr1 ⟨s1, r1, hb1, o1, q1, m1, hEw, hE1⟩
  dsimp only at r1 hb1 hEw hE1
  have hz1 := m1.size
  have hE0 : ∀ b, Iin h g A bs p b → b ≠ E := fun b hb e => by have := q0.lt hb; omega
  have hEr : ¬ RS h g E := fun e => by
    rcases e with e | e
    · exact hE0 _ (.inr (.inl rfl)) e.symm
    · exact hE0 _ (.inl rfl) e.symm
  have hX1 := m1.blk hX0 hXn
  have hV1 := m1.blk hV0 hVr
  have hrs1 : ∀ b, RS h g b → b < w.heap.size := fun b e => q.lt (by rcases e with e | e; exact .inr (.inl e); exact .inl e)
  refine seq_cut (σ := List UInt8) (fun _ => [(0, .pointer (some ⟨X, 0, none⟩)), (1, .pointer (some ⟨V, 0, none⟩)), (2, .pointer (some ⟨E, 0, none⟩))]) (fun z w' => ∃ s', Rd (utfT p.l) bs s1 z s' ∧ On s1 s' ∧ Ir w' h g A c bs p s' ∧ Mod (fun b => RS h g b ∨ b = E) w1 w' ∧ w'.heap[X]? = some (.cells #[.pointer (some ⟨h, 0, none⟩)] 104 (0, 0)) ∧ w'.heap[V]? = some (.cells #[zi 0, strV [], strV [], zi 0, zi 0, .slice none 0 0, .slice none 0 0, .slice none 0 0] 36 (0, 0)) ∧ w'.heap[E]? = some (.cells #[zi n1, strV z, strV [], zi 0, zi 0, .slice none 0 0, .slice none 0 0, .slice none 0 0] 36 (0, 0))) ?_ ?_
  rotate_left
  · intro K hK
    refine Exists.intro (some ⟨h, 0, none⟩) (And.intro (cell0 hX1) ?_)
    refine call_ (rtext_ok h g A c bs p s1 w1 q1 hO) ?_
    rintro e wa ⟨z, sa, rfl, ra, hpa, qa, ma⟩
    refine ⟨_, rfl, ?_⟩
    have hEa := ma.blk hE1 hEr
    refine And.intro ⟨_, cellB hEa rfl⟩ (And.intro (fzB hEa _) (force_ ?_))
    refine stK hEa (show (1 : Nat) < 8 by decide) ?_
    intro wb hEb mb sb
    exact hK z _ _ ⟨rfl, rfl, rfl, trivial⟩ ⟨sa, ra, hpa, qa.modN mb (fun b hb e => hE0 b hb e), Mod.trans (ma.mono fun _ _ e => .inl e) mb fun _ _ e => .inr e, mb.blk (ma.blk hX1 hXn) (show ¬ X = E by omega), mb.blk (ma.blk hV1 hVr) (show ¬ V = E by omega), hEb⟩
  rintro z1 w2 fr2 ⟨s2, r2, o2, q2, m2, hX2, hV2, hE2⟩
  have hz2 := m2.size
  refine seq_cut (σ := List UInt8) (fun _ => [(0, .pointer (some ⟨X, 0, none⟩)), (1, .pointer (some ⟨V, 0, none⟩)), (2, .pointer (some ⟨E, 0, none⟩))]) (fun z w' => ∃ s', Rd (utfT p.l) bs s2 z s' ∧ On s2 s' ∧ Ir w' h g A c bs p s' ∧ Mod (fun b => RS h g b ∨ b = E) w2 w' ∧ w'.heap[X]? = some (.cells #[.pointer (some ⟨h, 0, none⟩)] 104 (0, 0)) ∧ w'.heap[V]? = some (.cells #[zi 0, strV [], strV [], zi 0, zi 0, .slice none 0 0, .slice none 0 0, .slice none 0 0] 36 (0, 0)) ∧ w'.heap[E]? = some (.cells #[zi n1, strV z1, strV z, zi 0, zi 0, .slice none 0 0, .slice none 0 0, .slice none 0 0] 36 (0, 0))) ?_ ?_
  rotate_left
  · intro K hK
    refine Exists.intro (some ⟨h, 0, none⟩) (And.intro (cell0 hX2) ?_)
    refine call_ (rtext_ok h g A c bs p s2 w2 q2 hO) ?_
    rintro e wa ⟨z, sa, rfl, ra, hpa, qa, ma⟩
    refine ⟨_, rfl, ?_⟩
    have hEa := ma.blk hE2 hEr
    refine And.intro ⟨_, cellB hEa rfl⟩ (And.intro (fzB hEa _) (force_ ?_))
    refine stK hEa (show (2 : Nat) < 8 by decide) ?_
    intro wb hEb mb sb
    exact hK z _ _ ⟨rfl, rfl, rfl, trivial⟩ ⟨sa, ra, hpa, qa.modN mb (fun b hb e => hE0 b hb e), Mod.trans (ma.mono fun _ _ e => .inl e) mb fun _ _ e => .inr e, mb.blk (ma.blk hX2 hXn) (show ¬ X = E by omega), mb.blk (ma.blk hV2 hVr) (show ¬ V = E by omega), hEb⟩
  rintro z2 w3 fr3 ⟨s3, r3, o3, q3, m3, hX3, hV3, hE3⟩
  have hz3 := m3.size
  refine seq_cut (σ := Int) (fun _ => [(0, .pointer (some ⟨X, 0, none⟩)), (1, .pointer (some ⟨V, 0, none⟩)), (2, .pointer (some ⟨E, 0, none⟩))]) (fun n w' => ∃ s', Rd Class.n2 bs s3 n s' ∧ On s3 s' ∧ Ir w' h g A c bs p s' ∧ Mod (RS h g) w3 w') ?_ ?_
  rotate_left
  · intro K hK
    refine Exists.intro (some ⟨h, 0, none⟩) (And.intro (cell0 hX3) ?_)
    refine call_ (u_ok h g A c bs p s3 2 Pool.w2 w3 q3) ?_
    rintro e wa ⟨na, sa, rfl, ra, hba, hpa, qa, ma⟩
    refine ⟨_, rfl, ?_⟩
    exact hK na _ _ ⟨rfl, rfl, rfl, trivial⟩ ⟨sa, ra, hpa, qa, ma⟩
  rintro k4 w4 fr4 ⟨s4, r4, o4, q4, m4'⟩
  have hX4 := m4'.blk hX3 hXn
  have hV4 := m4'.blk hV3 hVr
  have hE4 := m4'.blk hE3 hEr
  have m4 := m4'.mono (show ∀ b, b < w3.heap.size → RS h g b → RS h g b ∨ b = E from fun _ _ e => .inl e)
  have hz4 := m4.size
  refine seq_cut (σ := Int) (fun _ => [(0, .pointer (some ⟨X, 0, none⟩)), (1, .pointer (some ⟨V, 0, none⟩)), (2, .pointer (some ⟨E, 0, none⟩))]) (fun n w' => ∃ s', Rd Class.n2 bs s4 n s' ∧ On s4 s' ∧ Ir w' h g A c bs p s' ∧ Mod (RS h g) w4 w') ?_ ?_
  rotate_left
  · intro K hK
    refine Exists.intro (some ⟨h, 0, none⟩) (And.intro (cell0 hX4) ?_)
    refine call_ (u_ok h g A c bs p s4 2 Pool.w2 w4 q4) ?_
    rintro e wa ⟨na, sa, rfl, ra, hba, hpa, qa, ma⟩
    refine ⟨_, rfl, ?_⟩
    exact hK na _ _ ⟨rfl, rfl, rfl, trivial⟩ ⟨sa, ra, hpa, qa, ma⟩
  rintro k5 w5 fr5 ⟨s5, r5, o5, q5, m5'⟩
  have hX5 := m5'.blk hX4 hXn
  have hV5 := m5'.blk hV4 hVr
  have hE5 := m5'.blk hE4 hEr
  have m5 := m5'.mono (show ∀ b, b < w4.heap.size → RS h g b → RS h g b ∨ b = E from fun _ _ e => .inl e)
  have hz5 := m5.size
  refine seq_cut (σ := ((Option Addr × Nat) × (Option Addr × Nat) × (Option Addr × Nat)) × Cod) (fun _ => [(0, .pointer (some ⟨X, 0, none⟩)), (1, .pointer (some ⟨V, 0, none⟩)), (2, .pointer (some ⟨E, 0, none⟩))]) (fun t w' => ∃ s', Rd (partT (codT p.l)) bs s5 t.2 s' ∧ cCod t.2 ≤ 22 * (s'.1 - s5.1) + 44 ∧ On s5 s' ∧ LRep u8R w' (fun b => b < w5.heap.size) (.slice t.1.1.1 t.2.bytes.length t.1.1.2) t.2.bytes ∧ LRep hndR w' (fun b => b < w5.heap.size) (.slice t.1.2.1.1 t.2.hands.length t.1.2.1.2) t.2.hands ∧ LRep mpR w' (fun b => b < w5.heap.size) (.slice t.1.2.2.1 t.2.maps.length t.1.2.2.2) t.2.maps ∧ Ir w' h g A c bs p s' ∧ Mod (fun b => RS h g b ∨ b = E) w5 w' ∧ w'.heap[V]? = some (.cells #[zi 0, strV [], strV [], zi 0, zi 0, .slice none 0 0, .slice none 0 0, .slice none 0 0] 36 (0, 0)) ∧ w'.heap[E]? = some (.cells #[zi n1, strV z1, strV z2, zi (t.2.stack), zi (t.2.locals), .slice t.1.1.1 t.2.bytes.length t.1.1.2, .slice t.1.2.1.1 t.2.hands.length t.1.2.1.2, .slice t.1.2.2.1 t.2.maps.length t.1.2.2.2] 36 (0, 0))) ?_ ?_
  rotate_left
  · intro K hK
    refine Exists.intro (some ⟨h, 0, none⟩) (And.intro (cell0 hX5) ?_)
    refine call_ (rcode_ok h g A c bs p s5 w5 q5 hO hm) ?_
    rintro e wa ⟨_, d, sa, rfl, ⟨_, _, _, rfl, l0, l1, l2⟩, ra, ca, hpa, qa, ma⟩
    obtain ⟨A0, c0, rfl, _⟩ := l0.get u8Ok (by decide)
    obtain ⟨A1, c1, rfl, _⟩ := l1.get hndOk (by decide)
    obtain ⟨A2, c2, rfl, _⟩ := l2.get mpOk (by decide)
    refine ⟨_, rfl, ?_⟩
    have hEa := ma.blk hE5 hEr
    refine And.intro rfl ?_
    have hEl : E < w5.heap.size := (Array.getElem?_eq_some_iff.1 hE5).1
    refine storeN_atX (g := E) (j := 3) (vs := [zi d.stack, zi d.locals, .slice A0 d.bytes.length c0, .slice A1 d.hands.length c1, .slice A2 d.maps.length c2]) rfl hEa (by simp) (ones5 _ _ _ _ _ _ _ _ _ _ _) ?_
    intro wb hEb mb sb
    exact hK (((A0, c0), (A1, c1), (A2, c2)), d) _ _ ⟨rfl, rfl, rfl, trivial⟩ ⟨sa, ra, ca, hpa, LRep.mod u8Ok (by decide) l0 (mb.mono fun b _ e => by omega), LRep.mod hndOk (by decide) l1 (mb.mono fun b _ e => by omega), LRep.mod mpOk (by decide) l2 (mb.mono fun b _ e => by omega), qa.modN mb (fun b hb e => hE0 b hb e), Mod.trans (ma.mono fun _ _ e => .inl e) mb fun _ _ e => .inr e, mb.blk (ma.blk hV5 hVr) (show ¬ V = E by omega), hEb⟩
  rintro ⟨⟨⟨A0, c0⟩, ⟨A1, c1⟩, ⟨A2, c2⟩⟩, d⟩ w6 fr6 ⟨s6, r6, cd, o6, l0, l1, l2, q6, m6, hV6, hE6⟩
  dsimp only at r6 cd l0 l1 l2 hE6
  have hz6 := m6.size
  refine loadN_row (vs := [zi n1, strV z1, strV z2, zi d.stack, zi d.locals, .slice A0 d.bytes.length c0, .slice A1 d.hands.length c1, .slice A2 d.maps.length c2]) (rowB hE6) rfl ?_
  refine And.intro rfl ?_
  refine storeN_all (vs := [zi n1, strV z1, strV z2, zi d.stack, zi d.locals, .slice A0 d.bytes.length c0, .slice A1 d.hands.length c1, .slice A2 d.maps.length c2]) hV6 rfl (one_rmth _ _ _ _ _ _ _ _ _ _ _ _ _ _) ?_
  intro wf hbf mf sf
  refine loadN_row (vs := [zi n1, strV z1, strV z2, zi d.stack, zi d.locals, .slice A0 d.bytes.length c0, .slice A1 d.hands.length c1, .slice A2 d.maps.length c2]) (rowB hbf) rfl ?_
  have lf : ∀ {α : Type} {R : RepT α} {n : Nat} {v : Value} {xs : List α}, RepOk R n → 0 < n → LRep R w6 (fun b => b < w5.heap.size) v xs → LRep R wf (fun b => b < w.heap.size) v xs := fun k hn l => LRep.weak k (LRep.mod k hn l (mf.mono fun b _ e => by omega)) fun b _ e => by omega
  refine ⟨_, ⟨n1, z1, z2, d⟩, s6, rfl, ⟨_, _, _, rfl, lf u8Ok (by decide) l0, lf hndOk (by decide) l1, lf mpOk (by decide) l2⟩, ?_, ?_, o1.trans (o2.trans (o3.trans (o4.trans (o5.trans (o6))))), q6.modN mf (fun b hb e => hVn b hb e), Mod.trans (Mod.trans (Mod.trans n0.mod m1 fun _ _ e => e) (both (both (both (both (m2) m3) m4) m5) m6) fun b hb e => e.elim id fun e => by omega) mf fun b hb e => by omega, by unfold i64; dsimp only; omega⟩
  · exact RdS.byP (f := fun m : Mth => (m.acc, m.name, m.typ, 1, codeS, m.code)) (y := ⟨n1, z1, z2, d⟩) (RdS.seq (r1.S fun _ => True) (RdS.seq (r2.S fun _ => True) (RdS.seq (r3.S fun _ => True) (RdS.seq (RdS.num (m := 1) r4) (RdS.seq (RdS.utf (z := codeS) r5) (r6.S fun _ => True)))))) (fun z hz => ⟨trivial, trivial, trivial, rfl, rfl, trivial⟩) (fun z e => by cases z; cases e; rfl)
  · have b1 := o1.1
    have b2 := o2.1
    have b3 := o3.1
    have b4 := o4.1
    have b5 := o5.1
    have b6 := o6.1
    show 14 + cCod d ≤ _
    omega

theorem members_mth (h g : Nat) (A : Option Addr) (c : Nat) (bs : List UInt8) (p : Po) (s : RSt) (w : World) (q : Ir w h g A c bs p s) (hO : OkPool p.l) (X : Nat) (hX : w.heap[X]? = some (.cells #[.pointer (some ⟨h, 0, none⟩)] 104 (0, 0))) (hXn : ¬ RS h g X) (hm : bs.length ≤ 1000000) :
    Calls Tryd.prog 65 #[.pointer (some ⟨h, 0, none⟩), .func (.func 66) #[] #[.pointer (some ⟨X, 0, none⟩)]] w fun e w' => ∃ v xs s', e = .returned v ∧ LRep mthR w' (fun b => b < w.heap.size) v xs ∧ Rd (lstT (mthT p.l) 256 (by decide)) bs s xs s' ∧ csum cMth xs ≤ (22 + 58) * (s'.1 - s.1) + 58 ∧ xs.length ≤ (s'.1 - s.1) + 1 ∧ On s s' ∧ Ir w' h g A c bs p s' ∧ Mod (RS h g) w w' ∧ ∀ x ∈ xs, (fun x : Mth => i64 x.acc) x := by
  refine enter ok Tryd.func65 rfl rfl rfl ?_
  have low : ∀ b, (RS h g) b → b < w.heap.size := fun b e => q.lt (by rcases e with e | e; exact .inr (.inl e); exact .inl e)
  refine seq_assign ?_
  refine seq_assign ?_
  refine seq_cut (σ := (Option Addr × Nat) × List (List Value × Mth)) (fun t => [(5, .slice t.1.1 t.2.length t.1.2)]) (fun t w' => ∃ s', LRep mthR w' (fun b => b < w.heap.size) (.slice t.1.1 t.2.length t.1.2) (t.2.map (·.2)) ∧ Rd (lstT (mthT p.l) 256 (by decide)) bs s (t.2.map (·.2)) s' ∧ csum cMth (t.2.map (·.2)) ≤ (22 + 58) * (s'.1 - s.1) + 58 ∧ (t.2.map (·.2)).length ≤ (s'.1 - s.1) + 1 ∧ On s s' ∧ Ir w' h g A c bs p s' ∧ Mod (RS h g) w w' ∧ ∀ x ∈ t.2.map (·.2), (fun x : Mth => i64 x.acc) x) ?_ ?_
  · rintro t w1 fr1 ⟨s', h1, h2, h3, h4, h5, h6, h8, h7⟩
    exact ⟨_, _, s', rfl, h1, h2, h3, h4, h5, h6, h8, h7⟩
  intro K hK
  refine seq_cut (σ := Int) (fun n => [(0, .pointer (some ⟨h, 0, none⟩)), (1, .func (.func 66) #[] #[.pointer (some ⟨X, 0, none⟩)]), (5, .slice none 0 0), (6, zi n)]) (fun n w' => ∃ s1, Rd n2 bs s n s1 ∧ (0 ≤ n ∧ n < 65536) ∧ On s s1 ∧ Ir w' h g A c bs p s1 ∧ Mod (RS h g) w w' ∧ Mod (RS h g) w w') ?_ ?_
  rotate_left
  · intro K2 hK2
    refine call_ (u_ok h g A c bs p s 2 Pool.w2 w q) ?_
    rintro e w1 ⟨n, s1, rfl, rd1, hb, o1, p1, m1⟩
    refine ⟨_, rfl, ?_⟩
    exact hK2 n _ _ ⟨rfl, rfl, rfl, rfl, trivial⟩ ⟨s1, rd1, hb, o1, p1, m1.mono fun b hb e => e, m1⟩
  rintro n w1 fr1 ⟨s1, rd1, hn, o1, p1, m1, m1'⟩
  refine den_loop (σ := ((Option Addr × Nat) × List (List Value × Mth)) × Int × RSt) (fun t => [(0, .pointer (some ⟨h, 0, none⟩)), (1, .func (.func 66) #[] #[.pointer (some ⟨X, 0, none⟩)]), (5, .slice t.1.1.1 t.1.2.length t.1.1.2), (6, zi t.2.1)])
    (fun m t wl => m = t.2.1.toNat ∧ LRd (mthT p.l) 256 bs s (t.1.2.map (·.2)) t.2.1.toNat t.2.2 ∧ t.2.1.toNat + t.1.2.length ≤ 65536 ∧ t.2.1 ≤ 65536 ∧ On s t.2.2 ∧ Ir wl h g A c bs p t.2.2 ∧ Mod (RS h g) w wl ∧ LCo cMth 22 58 s (t.1.2.map (·.2)) t.2.2 ∧ wl.ownsRow w.heap.size 36 8 (.slice t.1.1.1 t.1.2.length t.1.1.2) t.1.2.length (cellsOf t.1.2) ∧
      (∀ y ∈ t.1.2, mthR wl (fun b => b < w.heap.size ∨ some b = (Value.slice t.1.1.1 t.1.2.length t.1.1.2).ownBlock) y.1 y.2) ∧ ∀ x ∈ t.1.2.map (·.2), (fun x : Mth => i64 x.acc) x) n.toNat (((none, 0), []), n, s1)
    ⟨rfl, rfl, rfl, rfl, trivial⟩ ⟨rfl, LRd.start (by decide) rd1, by simp; omega, by dsimp only; omega, o1, p1, m1, LCo.start, ⟨rfl, .inl ⟨rfl, rfl⟩⟩, (fun _ h => (by cases h)), (fun _ h => (by cases h))⟩ ?_
  rintro m ⟨⟨⟨Al, cl⟩, ts⟩, z, s2⟩ wl frl ⟨rfl, hinv, hcnt, hz65, on2, pl, kl, hco, own, hts, hfine⟩
  dsimp only at hinv hcnt hz65 on2 pl kl hco own hts hfine
  have hown := fun b (e : (Value.slice Al ts.length cl).ownBlock = some b) => own.lt b e
  have klz := kl.size
  have fin : (s2.2 = false → z.toNat = 0) → id (∃ s', LRep mthR wl (fun b => b < w.heap.size) (.slice Al ts.length cl) (ts.map (·.2)) ∧ Rd (lstT (mthT p.l) 256 (by decide)) bs s (ts.map (·.2)) s' ∧ csum cMth (ts.map (·.2)) ≤ (22 + 58) * (s'.1 - s.1) + 58 ∧ (ts.map (·.2)).length ≤ (s'.1 - s.1) + 1 ∧ On s s' ∧ Ir wl h g A c bs p s' ∧ Mod (RS h g) w wl ∧ ∀ x ∈ ts.map (·.2), (fun x : Mth => i64 x.acc) x) := fun hz => by
    obtain ⟨A', c', e', h5, h6, row, ho⟩ := own_slice own
    cases e'
    exact ⟨s2, ⟨Al, cl, ts, by rw [List.length_map], rfl, by rw [List.length_map]; exact h5, h6, by rw [List.length_map]; omega, row, fun a ha _ => ⟨(ho a ha).2.1, by have := (ho a ha).1; omega⟩, fun t ht => mthOk.weak (hts t ht) fun b _ hb => .inl hb⟩, hinv.done hz, hco.le.1, hco.le.2, on2, pl, kl, hfine⟩
  refine if_p (fun hlt => ?_) (fun hge => ?_)
  · replace hlt : 0 < z := hlt
    refine Exists.intro s2.2 (And.intro (cellB pl.blk rfl) ?_)
    refine if_ (fun hz => ?_) (fun hz => ?_)
    · replace hz : s2.2 = false := by simpa using hz
      obtain ⟨k, hk⟩ : ∃ k, z.toNat = k + 1 := ⟨z.toNat - 1, by omega⟩
      rw [hk] at hinv
      have hk' : (z - 1).toNat = k := by omega
      refine call_ (rmth_ok h g A c bs p s2 wl pl hO X (kl.blk hX hXn) hXn hm) ?_
      rintro e w5 ⟨cs, x, s5, he, hx, rd5, hcost5, hprog5, p5, m5, hfx⟩
      subst he
      have hx0 := hx
      obtain ⟨_, _, _, rfl, lx1, lx2, lx3⟩ := hx
      obtain ⟨Ax1, cx1, rfl, _⟩ := lx1.get u8Ok (by decide)
      obtain ⟨Ax2, cx2, rfl, _⟩ := lx2.get hndOk (by decide)
      obtain ⟨Ax3, cx3, rfl, _⟩ := lx3.get mpOk (by decide)
      refine ⟨_, rfl, ?_⟩
      have m5z := m5.size
      have hnR : ∀ b, w.heap.size ≤ b → ¬ (RS h g) b := fun b hb e => by have := low b e; omega
      have own5 := own_mod m5 own (fun b hb => hnR b (hown b hb).1)
      have n6 := New.alloc w5 (.cells [zi x.acc, strV x.name, strV x.typ, zi x.code.stack, zi x.code.locals, .slice Ax1 x.code.bytes.length cx1, .slice Ax2 x.code.hands.length cx2, .slice Ax3 x.code.maps.length cx3].toArray 36)
      refine append2_ ok rfl rfl rfl rfl (own_new n6 own5) rfl rfl (row_alloc w5 [zi x.acc, strV x.name, strV x.typ, zi x.code.stack, zi x.code.locals, .slice Ax1 x.code.bytes.length cx1, .slice Ax2 x.code.hands.length cx2, .slice Ax3 x.code.maps.length cx3] _ _) rfl (mthOk.one hx0) (by decide) rfl (by show (ts.length + 1) * 128 ≤ _; omega) (by omega) (Nat.le_trans (by omega) n6.size) ?_
      intro A7 c7 w7 own7 mod7 st7
      have k57 : Mod (fun b => some b = (Value.slice Al ts.length cl).ownBlock) w5 w7 := Mod.trans n6.mod mod7 fun _ _ e => e
      have hl : (ts ++ [([zi x.acc, strV x.name, strV x.typ, zi x.code.stack, zi x.code.locals, .slice Ax1 x.code.bytes.length cx1, .slice Ax2 x.code.hands.length cx2, .slice Ax3 x.code.maps.length cx3], x)]).length = ts.length + 1 := by simp
      have st : ∀ b, some b = (Value.slice A7 (ts.length + 1) c7).ownBlock → some b = (Value.slice Al ts.length cl).ownBlock ∨ w5.heap.size ≤ b := fun b e => by
        rcases st7 b e.symm with e | e
        · exact .inl e.symm
        · exact .inr (Nat.le_trans n6.size e)
      have hnew := mem_stepS mthOk hts hx0 m5 low k57 klz (fun b e => hown b e.symm) st
      have pow := q.loc p5 k57 fun b e => (hown _ e.symm).1
      refine ⟨(z - 1).toNat, (((A7, c7), ts ++ [([zi x.acc, strV x.name, strV x.typ, zi x.code.stack, zi x.code.locals, .slice Ax1 x.code.bytes.length cx1, .slice Ax2 x.code.hands.length cx2, .slice Ax3 x.code.maps.length cx3], x)]), z - 1, s5), (by dsimp only; omega), ⟨rfl, rfl, (show Value.slice A7 (ts.length + 1) c7 = .slice A7 (ts ++ [([zi x.acc, strV x.name, strV x.typ, zi x.code.stack, zi x.code.locals, .slice Ax1 x.code.bytes.length cx1, .slice Ax2 x.code.hands.length cx2, .slice Ax3 x.code.maps.length cx3], x)]).length c7 by rw [hl]), (show zi (IntKind.i64.wrap (z - 1)) = zi (z - 1) by rw [wrap_i64 (by omega) (by omega)]), trivial⟩, rfl, ?_, ?_, by dsimp only; omega, on2.trans hprog5, pow, ?_, ?_, ?_, ?_, ?_⟩
      · dsimp only
        rw [hk', List.map_append]
        exact hinv.step rd5
      · dsimp only
        rw [hl]
        omega
      · exact Mod.trans (both kl m5) k57 fun b hb e => by have := hown b e.symm; omega
      · dsimp only
        rw [List.map_append]
        exact hco.step hinv.1 hz hcost5 hprog5
      · dsimp only
        rw [hl, cellsOf_snoc]
        exact own7
      · dsimp only
        rw [hl]
        exact hnew
      · dsimp only
        intro y hy
        rw [List.map_append, List.mem_append] at hy
        rcases hy with hy | hy
        · exact hfine y hy
        · rw [List.mem_singleton.1 hy]
          exact hfx
    · replace hz : s2.2 = true := by simpa using hz
      exact hK ((Al, cl), ts) _ _ ⟨rfl, trivial⟩ (fin fun h => by rw [hz] at h; cases h)
  · replace hge : ¬ 0 < z := hge
    exact hK ((Al, cl), ts) _ _ ⟨rfl, trivial⟩ (fin fun _ => by omega)

end Go.Proofs.YtdcaafldnbcdkaaDoor.Class

/-! ### KWrite4 -/
namespace Go.Proofs.YtdcaafldnbcdkaaDoor.Class
open Go Go.Proofs.YtdcaafldnbcdkaaDoor Go.Proofs.YtdcaafldnbcdkaaDoor.Eng Go.Proofs Go.Proofs.YtdcaafldnbcdkaaDoor.Word Go.Proofs.YtdcaafldnbcdkaaDoor.Fmt
open Go.Proofs.YtdcaafldnbcdkaaDoor.Pool (Ent at_ poolF strV entC entV EntOk Pl OkPool both own_low tagAt)
set_option maxRecDepth 10000

theorem Ki.also {S : Nat → Prop} {w w1 w2 w3 : World} {base h g : Nat} {p : Po} {v v1 v3 : Value} {t1 t3 : WT} (k : Ki w base p h g v w1 v1 t1) (m : Mod S w1 w2) (hS : ∀ b, S b → w.heap.size ≤ b) (k2 : Ki w2 base p h g v1 w3 v3 t3) : Ki w base p h g v w3 v3 t3 := by
  refine ⟨k2.wi, Mod.trans (Mod.trans (S := WH h g v) k.mod m fun b hb e => ?_) k2.mod ?_, stayed.trans k.st (Nat.le_trans k.mod.size m.size) k2.st⟩
  · have := hS b e
    omega
  rintro b hb ((e | e) | e)
  · exact .inl (.inl e)
  · rcases k.st b e.symm with h1 | h1
    · exact .inl (.inr h1.symm)
    · omega
  · exact .inr e
theorem LRep.up {α : Type} {R : RepT α} {sz : Nat} {w w' : World} {S S' : Nat → Prop} {vl : Value} {xs : List α} (hR : RepOk R sz) (hsz : 0 < sz) (hl : LRep R w S vl xs) (n : New w w') (hS : ∀ b, S' b → w.heap.size ≤ b) : LRep R w' S' vl xs := by
  have h1 := LRep.weak (S' := fun b => w.heap.size ≤ b) hR hl fun b hb e => absurd hb (by omega)
  exact LRep.weak hR (LRep.mod hR hsz h1 (n.mod.mono fun _ _ e => False.elim e)) fun b _ e => hS b e
theorem rep_up {α : Type} {R : RepT α} {sz : Nat} {w w' : World} {S S' : Nat → Prop} {cs : List Value} {x : α} (hR : RepOk R sz) (hl : R w S cs x) (n : New w w') (hS : ∀ b, S' b → w.heap.size ≤ b) : R w' S' cs x := by
  have h1 := hR.weak (S' := fun b => w.heap.size ≤ b) hl fun b hb e => absurd hb (by omega)
  exact hR.weak (hR.mod h1 (n.mod.mono fun _ _ e => False.elim e)) fun b _ e => hS b e
theorem hnd1_ok (p : Po) (base : Nat) (h g : Nat) (v : Value) (t : WT) (cs : List Value) (x : Hnd) (X : Nat) (w : World) (c : Wi w base p h g v t) (hX : w.heap[X]? = some (.cells #[.pointer (some ⟨h, 0, none⟩)] 78 (0, 0))) (hXn : ¬ WH h g v X) (hx : hndR w (WH h g v) cs x) (hm : t.1.length + cHnd x ≤ 1000000000) :
    Calls Tryd.prog 78 #[.agg cs.toArray, .pointer (some ⟨X, 0, none⟩)] w fun e w' => e = .returned (.tuple #[]) ∧ ∃ v' t', Ki w base p h g v w' v' t' ∧ Wri (hndT p.l) (cHnd x) t x t' := by
  obtain rfl := hx
  unfold cHnd at hm
  refine enter ok Tryd.func78 rfl rfl rfl ?_
  obtain ⟨M, hM⟩ : ∃ M, M = w.heap.size := ⟨_, rfl⟩
  refine seq_cut (σ := Unit) (fun _ => [(1, .pointer (some ⟨X, 0, none⟩)), (2, .pointer (some ⟨M, 0, none⟩))]) (fun _ w' => New w w' ∧ w'.heap[M]? = some (.cells #[zi x.from_, zi x.to, zi x.at_, zi x.cls] 46 (0, 0))) ?_ ?_
  rotate_left
  · intro K hK
    rw [hM] at hK
    exact hK () _ _ ⟨rfl, rfl, trivial⟩ ⟨New.alloc w _, heap_alloc_new w (.cells #[zi x.from_, zi x.to, zi x.at_, zi x.cls] 46)⟩
  rintro _ w0 fr0 ⟨n0, hM0⟩
  have c0 := c.new n0
  have hX0 := n0.blk hX
  have hMn : ¬ WH h g v M := c.hi (by omega)
  refine seq_cut (σ := Bool) (fun _ => [(1, .pointer (some ⟨X, 0, none⟩)), (2, .pointer (some ⟨M, 0, none⟩))]) (fun b w' => Ki w0 base p h g v w' v (t.1, t.2 || !b) ∧ (b = true ↔ x.cls = 0 ∨ 0 < x.cls ∧ x.cls < (p.l.length : Int) ∧ (at_ p.l x.cls).tag = 7)) ?_ ?_
  rotate_left
  · intro K hK
    have nd := New.drew w0
    have fin : ∀ b : Bool, (b = true ↔ x.cls = 0 ∨ 0 < x.cls ∧ x.cls < (p.l.length : Int) ∧ (at_ p.l x.cls).tag = 7) → ∀ K' : Value → World → Prop, (∀ w', Ki w0 base p h g v w' v (t.1, t.2 || !b) → K' (.tuple #[]) w') → callQ Tryd.prog 41 [.pointer (some ⟨h, 0, none⟩), .bool b] w0.drew K' := fun b hb K' hK' => by
      refine call_ (must_ok base p h g v t b w0.drew (c0.new nd)) ?_
      rintro e w2 ⟨rfl, k2⟩
      exact ⟨_, rfl, hK' w2 (((Ki.refl c0).new nd).then k2)⟩
    refine draw_ (w := w0) ok (.q 0 (.q 1 (.q 2 (.q 3 (.q 4 (.q 5 (.q 6 (.q 7 (.q 8 (.q 9 (.q 10 (.q 11 (.q 12 (.q 13 (.q 14 (.q 15 (.q 16 (.q 17 (.q 18 (.q 19 (.q 20 (.q 21 (.q 22 (.q 23 (.q 24 (.q 25 (.q 26 (.q 27 (.q 28 (.q 29 (.q 30 (.e 31 .done)))))))))))))))))))))))))))))))) [31] (New w0) (by kernel_rfl) (by kernel_rfl) (by kernel_rfl) (by kernel_rfl) (by kernel_rfl) nd ?_
    refine Exists.intro (some ⟨h, 0, none⟩) (And.intro (fun w'' hw => cell0 (hw.blk hX0)) ?_)
    refine Exists.intro x.cls (And.intro (fun w'' hw => cellB (hw.blk hM0) rfl) ?_)
    refine if_p (fun h0 => ?_) (fun h0 => ?_)
    · replace h0 : x.cls = 0 := h0
      exact fin true ⟨fun _ => .inl h0, fun _ => rfl⟩ _ fun w' k' => hK true _ _ ⟨rfl, rfl, trivial⟩ ⟨k', ⟨fun _ => .inl h0, fun _ => rfl⟩⟩
    · replace h0 : ¬ x.cls = 0 := h0
      refine Exists.intro x.cls (And.intro (fun w'' hw => cellB (hw.blk hM0) rfl) ?_)
      refine if_p (fun h1 => ?_) (fun h1 => ?_)
      · replace h1 : 0 < x.cls := h1
        refine Exists.intro x.cls (And.intro (fun w'' hw => cellB (hw.blk hM0) rfl) ?_)
        refine Exists.intro (some ⟨h, 0, none⟩) (And.intro (fun w'' hw => cell0 (hw.blk hX0)) ?_)
        refine Exists.intro p.A (Exists.intro p.l.length (Exists.intro p.c (And.intro (fun w'' hw => cellB (hw.blk c0.blk) rfl) ?_)))
        refine if_p (fun h2 => ?_) (fun h2 => ?_)
        · replace h2 : x.cls < (p.l.length : Int) := h2
          have hi : x.cls.toNat < p.l.length := by omega
          obtain ⟨a, ea, hok, hc⟩ := c0.cx.pl.at_ hi
          have e1 : at_ p.l ((x.cls.toNat : Nat) : Int) = at_ p.l x.cls := by rw [Int.toNat_of_nonneg (by omega)]
          rw [e1] at hc
          refine Exists.intro (some ⟨h, 0, none⟩) (And.intro (fun w'' hw => cell0 (hw.blk hX0)) ?_)
          refine Exists.intro p.A (Exists.intro p.l.length (Exists.intro p.c (And.intro (fun w'' hw => cellB (hw.blk c0.blk) rfl) ?_)))
          refine Exists.intro x.cls (And.intro (fun w'' hw => cellB (hw.blk hM0) rfl) ?_)
          refine And.intro (by omega) (And.intro h2 ?_)
          refine some_at ea ?_
          refine Exists.intro (at_ p.l x.cls).tag (And.intro (fun w'' hw => hw.cell (by have := hc 0 _ rfl; rw [add_zero_] at this ⊢; exact this)) ?_)
          have hb : decide ((at_ p.l x.cls).tag = 7) = true ↔ x.cls = 0 ∨ 0 < x.cls ∧ x.cls < (p.l.length : Int) ∧ (at_ p.l x.cls).tag = 7 := by
            rw [decide_eq_true_eq]
            exact ⟨fun e => .inr ⟨h1, h2, e⟩, fun e => (e.resolve_left h0).2.2⟩
          exact fin _ hb _ fun w' k' => hK _ _ _ ⟨rfl, rfl, trivial⟩ ⟨k', hb⟩
        · replace h2 : ¬ x.cls < (p.l.length : Int) := h2
          have hb : false = true ↔ x.cls = 0 ∨ 0 < x.cls ∧ x.cls < (p.l.length : Int) ∧ (at_ p.l x.cls).tag = 7 := ⟨fun e => (by cases e), fun e => absurd (e.resolve_left h0).2.1 h2⟩
          exact fin false hb _ fun w' k' => hK false _ _ ⟨rfl, rfl, trivial⟩ ⟨k', hb⟩
      · replace h1 : ¬ 0 < x.cls := h1
        have hb : false = true ↔ x.cls = 0 ∨ 0 < x.cls ∧ x.cls < (p.l.length : Int) ∧ (at_ p.l x.cls).tag = 7 := ⟨fun e => (by cases e), fun e => absurd (e.resolve_left h0).1 h1⟩
        exact fin false hb _ fun w' k' => hK false _ _ ⟨rfl, rfl, trivial⟩ ⟨k', hb⟩
  rintro b w1 fr1 ⟨k1, hb⟩
  have hX1 := k1.blk hX0 hXn
  have hM1 := k1.blk hM0 hMn
  refine Exists.intro (some ⟨h, 0, none⟩) (And.intro (cell0 hX1) ?_)
  refine Exists.intro x.from_ (And.intro (cellB hM1 rfl) ?_)
  refine Exists.intro x.to (And.intro (cellB hM1 rfl) ?_)
  refine Exists.intro x.at_ (And.intro (cellB hM1 rfl) ?_)
  refine Exists.intro x.cls (And.intro (cellB hM1 rfl) ?_)
  refine call_ (two1_ok base p h g v _ [x.from_, x.to, x.at_, x.cls] 4 w1 k1.wi rfl (by simp; omega)) ?_
  rintro e w2 ⟨rfl, v2, k2⟩
  refine ⟨_, rfl, ?_⟩
  exact ⟨rfl, v2, _, (((Ki.refl c).new n0).then k1).then k2, Wri.by Wri.four rfl hb⟩
theorem list_hnd (p : Po) (base : Nat) (h g : Nat) (v : Value) (t : WT) (vl : Value) (xs : List Hnd) (X : Nat)  (w : World) (c : Wi w base p h g v t) (hO : OkPool p.l) (hl : LRep hndR w (WH h g v) vl xs) (hX : w.heap[X]? = some (.cells #[.pointer (some ⟨h, 0, none⟩)] 78 (0, 0))) (hXn : ¬ WH h g v X)  (hm : t.1.length + (2 + csum cHnd xs) ≤ 1000000000) :
    Calls Tryd.prog 77 #[.pointer (some ⟨h, 0, none⟩), vl, zi 256, .func (.func 78) #[] #[.pointer (some ⟨X, 0, none⟩)]] w fun e w' => e = .returned (.tuple #[]) ∧ ∃ v' t', Ki w base p h g v w' v' t' ∧ Wri (hndsT p.l) (2 + csum cHnd xs) t xs t' := by
  obtain ⟨Al, cl, rfl, h43, _⟩ := hl.get hndOk (by decide)
  refine enter ok Tryd.func77 rfl rfl rfl ?_
  refine seq_cut (σ := Unit) (fun _ => [(0, .pointer (some ⟨h, 0, none⟩)), (1, .slice Al xs.length cl), (3, .func (.func 78) #[] #[.pointer (some ⟨X, 0, none⟩)])]) (fun _ w' => Ki w base p h g v w' v (t.1, t.2 || !decide (xs.length ≤ 256))) ?_ ?_
  rotate_left
  · intro K hK
    refine call_ (must_ok base p h g v t (decide ((xs.length : Int) ≤ 256)) w c) ?_
    rintro e w1 ⟨rfl, k1⟩
    refine ⟨_, rfl, ?_⟩
    have e1 : decide ((xs.length : Int) ≤ 256) = decide (xs.length ≤ 256) := decide_eq_decide.2 (by omega)
    rw [e1] at k1
    exact hK () _ _ ⟨rfl, rfl, rfl, trivial⟩ k1
  rintro _ w1 fr1 k1
  refine seq_cut (σ := Value × WT) (fun _ => [(0, .pointer (some ⟨h, 0, none⟩)), (1, .slice Al xs.length cl), (3, .func (.func 78) #[] #[.pointer (some ⟨X, 0, none⟩)])]) (fun s w' => Ki w base p h g v w' s.1 s.2 ∧ Wri n2 2 (t.1, t.2 || !decide (xs.length ≤ 256)) (xs.length : Int) s.2) ?_ ?_
  rotate_left
  · intro K hK
    refine Exists.intro (t.2 || !decide (xs.length ≤ 256)) (And.intro (cellB k1.wi.blk rfl) ?_)
    cases hbad : (t.2 || !decide (xs.length ≤ 256)) with
    | true =>
      rw [hbad] at k1 hK
      exact hK (v, (t.1, true)) _ _ ⟨rfl, rfl, rfl, trivial⟩ ⟨k1, Wri.bad rfl _ _⟩
    | false =>
      rw [hbad] at k1 hK
      refine call_ (two1_ok base p h g v (t.1, false) [(xs.length : Int)] 1 w1 k1.wi rfl (by simp; omega)) ?_
      rintro e w2 ⟨rfl, v2, k2⟩
      refine ⟨_, rfl, ?_⟩
      exact hK (v2, _) _ _ ⟨rfl, rfl, rfl, trivial⟩ ⟨k1.then k2, Wri.n2⟩
  rintro ⟨v2, t2⟩ w2 fr2 ⟨k2, wr2⟩
  dsimp only at k2 wr2
  refine seq_cut (σ := Unit) (fun _ => [(0, .pointer (some ⟨h, 0, none⟩)), (3, .func (.func 78) #[] #[.pointer (some ⟨X, 0, none⟩)]), (26, .slice Al xs.length cl), (27, zi (xs.length : Int)), (28, zi 0)]) (fun _ w' => w' = w2) ?_ ?_
  rotate_left
  · intro K hK
    exact hK () _ _ ⟨rfl, rfl, rfl, rfl, rfl, trivial⟩ rfl
  rintro _ wy fry hwy
  obtain rfl := hwy.symm
  refine den_loop (σ := Nat × Value × WT) (fun s => [(0, .pointer (some ⟨h, 0, none⟩)), (3, .func (.func 78) #[] #[.pointer (some ⟨X, 0, none⟩)]), (26, .slice Al xs.length cl), (27, zi (xs.length : Int)), (28, zi (s.1 : Int))])
    (fun m s wl => m + s.1 = xs.length ∧ Ki w base p h g v wl s.2.1 s.2.2 ∧ WLst (hndT p.l) 256 cHnd t xs s.1 s.2.2) xs.length (0, v2, t2) ⟨rfl, rfl, rfl, rfl, rfl, trivial⟩ ⟨rfl, k2, WLst.start (by decide) wr2⟩ ?_
  rintro m ⟨i, v3, t3⟩ wl frl ⟨hfuel, kl, hw⟩
  dsimp only at hfuel kl hw
  refine if_p (fun hlt => ?_) (fun hge => ?_)
  · replace hlt : (i : Int) < (xs.length : Int) := hlt
    have hi : i < xs.length := by omega
    obtain ⟨m, rfl⟩ : ∃ m', m = m' + 1 := ⟨m - 1, by omega⟩
    have inc := incN hi h43
    obtain ⟨Al', cl', he, _, gx⟩ := (kl.lrep hndOk (by decide) hl).get hndOk (by decide)
    cases he
    obtain ⟨a, cs, ea, hx, hc⟩ := gx i hi
    have hcs : csum cHnd (xs.take i) + cHnd xs[i] ≤ csum cHnd xs := by
      have h1 := csum_le cHnd xs (i + 1)
      rw [List.take_succ_eq_append_getElem hi, csum_snoc] at h1
      exact h1
    have hw1 := hw.1
    have hmem : xs[i] ∈ xs := List.getElem_mem hi
    obtain ⟨y, hy⟩ : ∃ y, y = xs[i] := ⟨_, rfl⟩
    rw [← hy] at hx hcs hmem
    have hx0 := hx
    obtain rfl := hx
    refine And.intro (by omega) (And.intro hlt ?_)
    refine some_at ea ?_
    refine loadN_row (vs := [zi y.from_, zi y.to, zi y.at_, zi y.cls]) (fun j u hu => by rw [Int.toNat_natCast]; exact hc j u hu) rfl ?_
    refine And.intro rfl ?_
    refine storeNew (vs := [zi y.from_, zi y.to, zi y.at_, zi y.cls]) (arr := #[zi 0, zi 0, zi 0, zi 0]) rfl (hndOk.one hx0) ?_
    intro w5 hb5 n5 s5
    have k5 := kl.new n5
    refine Exists.intro t3.2 (And.intro (cellB k5.wi.blk rfl) ?_)
    refine if_ (fun hbad => ?_) (fun hbad => ?_)
    · exact ⟨rfl, v3, t3, k5, hw.stop hbad⟩
    refine skip_ (thenF_ ?_)
    refine loadN_row (vs := [zi y.from_, zi y.to, zi y.at_, zi y.cls]) (rowB hb5) rfl ?_
    refine call_ (hnd1_ok p base h g v3 t3 _ y X w5 k5.wi (n5.blk (kl.blk hX hXn)) (kl.hid (Array.getElem?_eq_some_iff.1 hX).1 hXn) (hndOk.mod hx0 n5.mod) (by omega)) ?_
    rintro e w6 ⟨rfl, v6, t6, k6, wr6⟩
    refine ⟨_, rfl, ?_⟩
    exact ⟨m, (i + 1, v6, t6), by omega, ⟨rfl, rfl, rfl, rfl, inc, trivial⟩, by dsimp only; omega, k5.then k6, hw.step hi (by rw [← hy]; exact wr6)⟩
  · replace hge : ¬ (i : Int) < (xs.length : Int) := hge
    obtain rfl : i = xs.length := by omega
    exact ⟨rfl, v3, t3, kl, hw.done⟩

theorem add_ok (p : Po) (base : Nat) (h g : Nat) (v : Value) (t : WT) (h' g' : Nat) (v' : Value) (tp : WT) (w : World) (c : Wi w base p h g v t) (c' : Wi w base p h' g' v' tp) (hd : ∀ b, WH h' g' v' b → ¬ WH h g v b) (hm : t.1.length + (4 + tp.1.length) ≤ 1000000000) :
    Calls Tryd.prog 47 #[.pointer (some ⟨h, 0, none⟩), .pointer (some ⟨h', 0, none⟩)] w fun e w' => e = .returned (.tuple #[]) ∧ ∃ v2, Ki w base p h g v w' v2 (t.1 ++ (enc 4 (tp.1.length : Int) ++ tp.1), t.2 || tp.2) := by
  refine enter ok Tryd.func47 rfl rfl rfl ?_
  refine seq_cut (σ := Unit) (fun _ => [(0, .pointer (some ⟨h, 0, none⟩)), (1, .pointer (some ⟨h', 0, none⟩))]) (fun _ w' => Ki w base p h g v w' v (t.1, t.2 || tp.2)) ?_ ?_
  rotate_left
  · intro K hK
    refine Exists.intro tp.2 (And.intro (cellB c'.blk rfl) ?_)
    refine call_ (must_ok base p h g v t (!tp.2) w c) ?_
    rintro e w1 ⟨rfl, k1⟩
    refine ⟨_, rfl, ?_⟩
    rw [Bool.not_not] at k1
    exact hK () _ _ ⟨rfl, rfl, trivial⟩ k1
  rintro _ w1 fr1 k1
  have part : ∀ {w2 : World} {v2 : Value} {t2 : WT}, Ki w base p h g v w2 v2 t2 → Wi w2 base p h' g' v' tp := fun k => c'.other k.mod fun b _ e => ⟨c.at_ e, fun e' => hd b e' e⟩
  have c1' := part k1
  refine seq_cut (σ := Value) (fun _ => [(0, .pointer (some ⟨h, 0, none⟩)), (1, .pointer (some ⟨h', 0, none⟩))]) (fun v' w' => Ki w base p h g v w' v' (t.1 ++ enc 4 (tp.1.length : Int), t.2 || tp.2)) ?_ ?_
  rotate_left
  · intro K hK
    have nd := New.drew w1
    refine draw_ (w := w1) ok (.q 0 (.q 1 (.q 2 (.q 3 (.q 4 (.q 5 (.q 6 (.q 7 (.e 8 (.e 9 (.e 10 .done))))))))))) [10] (New w1) (by kernel_rfl) (by kernel_rfl) (by kernel_rfl) (by kernel_rfl) (by kernel_rfl) nd ?_
    refine Exists.intro (some ⟨g, 0, none⟩) (And.intro (fun w'' hw => cellB (hw.blk k1.wi.blk) rfl) ?_)
    refine Exists.intro (some ⟨g', 0, none⟩) (And.intro (fun w'' hw => cellB (hw.blk c1'.blk) rfl) ?_)
    refine call_ (Len_ok base g' v' tp.1 w1.drew (c1'.new nd).wr) ?_
    rintro e w2 ⟨rfl, hw2⟩
    obtain rfl := hw2.symm
    refine ⟨_, rfl, ?_⟩
    refine Exists.intro (New w1) ?_
    refine And.intro (fun _ h => h) ?_
    refine And.intro nd ?_
    refine eff_build (xs := [zi (tp.1.length : Int)]) rfl rfl rfl rfl rfl rfl rfl rfl rfl ?_
    refine Exists.intro (New w1) ?_
    refine And.intro (fun _ h => h) ?_
    refine And.intro (nd.trans (New.alloc _ _)) ?_
    refine call_ (WUn base p h g v _ 4 (tp.1.length : Int) w1.drew (k1.wi.new nd) (by dsimp only; omega)) ?_
    rintro e w3 ⟨rfl, v3, k3⟩
    refine ⟨_, rfl, ?_⟩
    have kk := (k1.new nd).then k3
    have e4 := noteU4 (t := (t.1, t.2 || tp.2)) (n := tp.1.length) (by omega)
    have e5 : allBs t.1 ((4 : Nat) : Int) false [(tp.1.length : Int)] = t.1 ++ enc 4 (tp.1.length : Int) := congrArg Prod.fst e4
    dsimp only at kk
    rw [e5] at kk
    exact hK v3 _ _ ⟨rfl, rfl, trivial⟩ kk
  rintro v2 w2 fr2 k2
  have c2' := part k2
  have nd := New.drew w2
  refine draw_ (w := w2) ok (.q 0 (.q 1 (.q 2 (.q 3 (.q 4 (.q 5 (.q 6 (.q 7 (.e 8 (.e 9 .done)))))))))) [9] (New w2) (by kernel_rfl) (by kernel_rfl) (by kernel_rfl) (by kernel_rfl) (by kernel_rfl) nd ?_
  refine Exists.intro (some ⟨g, 0, none⟩) (And.intro (fun w'' hw => cellB (hw.blk k2.wi.blk) rfl) ?_)
  refine Exists.intro (some ⟨g', 0, none⟩) (And.intro (fun w'' hw => cellB (hw.blk c2'.blk) rfl) ?_)
  refine call_ (All_ok base g' v' tp.1 w2.drew (c2'.new nd).wr (by omega)) ?_
  rintro e w3 ⟨u, rfl, own3, n3⟩
  obtain ⟨A3, c3, rfl, _, _, row3, _⟩ := own_slice own3
  refine ⟨_, rfl, ?_⟩
  refine Exists.intro (New w2) ?_
  refine And.intro (fun _ h => h) ?_
  refine And.intro (nd.trans n3) ?_
  have k3 := k2.new (nd.trans n3)
  refine call_ (WBn base p h g v2 _ A3 _ c3 tp.1 w3 k3.wi row3 rfl (by simp [enc_length]; omega)) ?_
  rintro e w4 ⟨rfl, v4, k4⟩
  refine ⟨_, rfl, ?_⟩
  have kk := k3.then k4
  dsimp only at kk
  rw [List.append_assoc] at kk
  exact ⟨rfl, v4, kk⟩
theorem code_ok (p : Po) (base : Nat) (h g : Nat) (v : Value) (t : WT) (cs : List Value) (x : Cod) (w : World) (c : Wi w base p h g v t) (hO : OkPool p.l) (hx : codR w (WH h g v) cs x) (hm : t.1.length + cCod x ≤ 1000000000) :
    Calls Tryd.prog 46 #[.pointer (some ⟨h, 0, none⟩), .agg cs.toArray] w fun e w' => e = .returned (.tuple #[]) ∧ ∃ v' t', Ki w base p h g v w' v' t' ∧ Wri (codT p.l) (cCod x) t x t' := by
  obtain ⟨_, _, _, rfl, hb0, hh0, hm0⟩ := hx
  obtain ⟨Ab, cb, rfl, hnb, _⟩ := hb0.get u8Ok (by decide)
  obtain ⟨Ah, ch, rfl, hnh, _⟩ := hh0.get hndOk (by decide)
  obtain ⟨Am, cm, rfl, hnm, _⟩ := hm0.get mpOk (by decide)
  have hcost : cCod x = 4 + (4 + x.bytes.length) + (2 + csum cHnd x.hands) + (10 + csum cMp x.maps) := rfl
  refine enter ok Tryd.func46 rfl rfl rfl ?_
  obtain ⟨X, hXe⟩ : ∃ X, X = w.heap.size := ⟨_, rfl⟩
  obtain ⟨M, hMe⟩ : ∃ M, M = w.heap.size + 1 := ⟨_, rfl⟩
  refine seq_cut (σ := Unit) (fun _ => [(2, .pointer (some ⟨X, 0, none⟩)), (3, .pointer (some ⟨M, 0, none⟩))]) (fun _ w' => New w w' ∧ w'.heap[X]? = some (.cells #[.pointer (some ⟨h, 0, none⟩)] 78 (0, 0)) ∧ w'.heap[M]? = some (.cells #[zi x.stack, zi x.locals, .slice Ab x.bytes.length cb, .slice Ah x.hands.length ch, .slice Am x.maps.length cm] 34 (0, 0))) ?_ ?_
  rotate_left
  · intro K hK
    have n1 := New.alloc w (.cells #[.pointer (some ⟨h, 0, none⟩)] 78)
    have h1 := heap_alloc_new w (.cells #[.pointer (some ⟨h, 0, none⟩)] 78)
    have s1 : (w.alloc (.cells #[.pointer (some ⟨h, 0, none⟩)] 78)).heap.size = w.heap.size + 1 := by simp
    have n2 := New.alloc (w.alloc (.cells #[.pointer (some ⟨h, 0, none⟩)] 78)) (.cells #[zi x.stack, zi x.locals, .slice Ab x.bytes.length cb, .slice Ah x.hands.length ch, .slice Am x.maps.length cm] 34)
    have h2 := heap_alloc_new (w.alloc (.cells #[.pointer (some ⟨h, 0, none⟩)] 78)) (.cells #[zi x.stack, zi x.locals, .slice Ab x.bytes.length cb, .slice Ah x.hands.length ch, .slice Am x.maps.length cm] 34)
    rw [s1] at h2
    refine hK () _ _ ⟨(by rw [hXe]; rfl), (show Value.pointer (some ⟨(w.alloc (.cells #[.pointer (some ⟨h, 0, none⟩)] 78)).heap.size, 0, none⟩) = _ by rw [s1, hMe]), trivial⟩ ⟨n1.trans n2, ?_, ?_⟩
    · rw [hXe]; exact n2.blk h1
    · rw [hMe]; exact h2
  rintro _ w0 fr0 ⟨n0, hX0, hM0⟩
  have c0 := c.new n0
  have hXn : ¬ WH h g v X := c.hi (by omega)
  have hMn : ¬ WH h g v M := c.hi (by omega)
  have hb0' := ((Ki.refl c).new n0).lrep u8Ok (by decide) hb0
  have hh0' := ((Ki.refl c).new n0).lrep hndOk (by decide) hh0
  have hm0' := ((Ki.refl c).new n0).lrep mpOk (by decide) hm0
  refine seq_cut (σ := Unit) (fun _ => [(2, .pointer (some ⟨X, 0, none⟩)), (3, .pointer (some ⟨M, 0, none⟩)), (4, zi (x.bytes.length : Int))]) (fun _ w' => w' = w0) ?_ ?_
  rotate_left
  · intro K hK
    refine Exists.intro Ab (Exists.intro x.bytes.length (Exists.intro cb (And.intro (cellB hM0 rfl) ?_)))
    exact hK () _ _ ⟨rfl, rfl, rfl, trivial⟩ rfl
  rintro _ wy fry hwy
  obtain rfl := hwy.symm
  refine seq_cut (σ := Bool) (fun _ => [(2, .pointer (some ⟨X, 0, none⟩)), (3, .pointer (some ⟨M, 0, none⟩)), (4, zi (x.bytes.length : Int))]) (fun b w' => Ki w0 base p h g v w' v (t.1, t.2 || !b) ∧ (b = true ↔ x.stack ≤ 64 ∧ x.locals ≤ 64 ∧ 0 < x.bytes.length ∧ x.bytes.length ≤ 4096)) ?_ ?_
  rotate_left
  · intro K hK
    have fin : ∀ b : Bool, (b = true ↔ x.stack ≤ 64 ∧ x.locals ≤ 64 ∧ 0 < x.bytes.length ∧ x.bytes.length ≤ 4096) → ∀ K' : Value → World → Prop, (∀ w', Ki w0 base p h g v w' v (t.1, t.2 || !b) → K' (.tuple #[]) w') → callQ Tryd.prog 41 [.pointer (some ⟨h, 0, none⟩), .bool b] w0 K' := fun b hb K' hK' => by
      refine call_ (must_ok base p h g v t b w0 c0) ?_
      rintro e w2 ⟨rfl, k2⟩
      exact ⟨_, rfl, hK' w2 k2⟩
    refine Exists.intro (some ⟨h, 0, none⟩) (And.intro (cell0 hX0) ?_)
    refine Exists.intro x.stack (And.intro (cellB hM0 rfl) ?_)
    refine if_p (fun h1 => ?_) (fun h1 => ?_)
    · replace h1 : x.stack ≤ 64 := h1
      refine Exists.intro x.locals (And.intro (cellB hM0 rfl) ?_)
      refine if_p (fun h2 => ?_) (fun h2 => ?_)
      · replace h2 : x.locals ≤ 64 := h2
        refine if_p (fun h3 => ?_) (fun h3 => ?_)
        · replace h3 : 0 < (x.bytes.length : Int) := h3
          have hb : decide ((x.bytes.length : Int) ≤ 4096) = true ↔ x.stack ≤ 64 ∧ x.locals ≤ 64 ∧ 0 < x.bytes.length ∧ x.bytes.length ≤ 4096 := by
            rw [decide_eq_true_eq]
            exact ⟨fun e => ⟨h1, h2, by omega, by omega⟩, fun e => by omega⟩
          exact fin _ hb _ fun w' k' => hK _ _ _ ⟨rfl, rfl, rfl, trivial⟩ ⟨k', hb⟩
        · replace h3 : ¬ 0 < (x.bytes.length : Int) := h3
          have hb : false = true ↔ x.stack ≤ 64 ∧ x.locals ≤ 64 ∧ 0 < x.bytes.length ∧ x.bytes.length ≤ 4096 := ⟨fun e => (by cases e), fun e => absurd e.2.2.1 (by omega)⟩
          exact fin false hb _ fun w' k' => hK false _ _ ⟨rfl, rfl, rfl, trivial⟩ ⟨k', hb⟩
      · replace h2 : ¬ x.locals ≤ 64 := h2
        have hb : false = true ↔ x.stack ≤ 64 ∧ x.locals ≤ 64 ∧ 0 < x.bytes.length ∧ x.bytes.length ≤ 4096 := ⟨fun e => (by cases e), fun e => absurd e.2.1 h2⟩
        exact fin false hb _ fun w' k' => hK false _ _ ⟨rfl, rfl, rfl, trivial⟩ ⟨k', hb⟩
    · replace h1 : ¬ x.stack ≤ 64 := h1
      have hb : false = true ↔ x.stack ≤ 64 ∧ x.locals ≤ 64 ∧ 0 < x.bytes.length ∧ x.bytes.length ≤ 4096 := ⟨fun e => (by cases e), fun e => absurd e.1 h1⟩
      exact fin false hb _ fun w' k' => hK false _ _ ⟨rfl, rfl, rfl, trivial⟩ ⟨k', hb⟩
  rintro b w1 fr1 ⟨k1, hb⟩
  have c1 := k1.wi
  have hX1 := k1.blk hX0 hXn
  have hM1 := k1.blk hM0 hMn
  have hb1 := k1.lrep u8Ok (by decide) hb0'
  have hh1 := k1.lrep hndOk (by decide) hh0'
  have hm1 := k1.lrep mpOk (by decide) hm0'
  have k01 := ((Ki.refl c).new n0).then k1
  have hXl : X < w1.heap.size := (Array.getElem?_eq_some_iff.1 hX1).1
  have kk1 := Ki.refl c1
  refine seq_cut (σ := Value × WT) (fun _ => [(2, .pointer (some ⟨X, 0, none⟩)), (3, .pointer (some ⟨M, 0, none⟩)), (4, zi (x.bytes.length : Int))]) (fun s w' => Ki w1 base p h g v w' s.1 s.2 ∧ Wri (seqT n2 n2) (4) (t.1, t.2 || !b) (x.stack, x.locals) s.2) ?_ ?_
  rotate_left
  · intro K hK
    have hX1 := kk1.blk hX1 hXn
    have hM1 := kk1.blk hM1 hMn
    refine Exists.intro (some ⟨h, 0, none⟩) (And.intro (cell0 hX1) ?_)
    refine Exists.intro x.stack (And.intro (cellB hM1 rfl) ?_)
    refine Exists.intro x.locals (And.intro (cellB hM1 rfl) ?_)
    refine call_ (two1_ok base p h g v (t.1, t.2 || !b) [x.stack, x.locals] 2 w1 kk1.wi rfl (by simp; omega)) ?_
    rintro e w2 ⟨rfl, v2, k2⟩
    refine ⟨_, rfl, ?_⟩
    exact hK (v2, _) _ _ ⟨rfl, rfl, rfl, trivial⟩ ⟨kk1.then k2, Wri.two⟩
  rintro ⟨v2, t2⟩ w2 fr2 ⟨kk2, q2⟩
  dsimp only at kk2 q2
  have p2 := q2.1
  try dsimp only at p2
  refine seq_cut (σ := Value) (fun _ => [(2, .pointer (some ⟨X, 0, none⟩)), (3, .pointer (some ⟨M, 0, none⟩)), (4, zi (x.bytes.length : Int))]) (fun v' w' => Ki w1 base p h g v w' v' (t2.1 ++ enc 4 (x.bytes.length : Int), t2.2)) ?_ ?_
  rotate_left
  · intro K hK
    have hX2 := kk2.blk hX1 hXn
    have hM2 := kk2.blk hM1 hMn
    refine Exists.intro (some ⟨h, 0, none⟩) (And.intro (cell0 hX2) ?_)
    refine Exists.intro (some ⟨g, 0, none⟩) (And.intro (cellB kk2.wi.blk rfl) ?_)
    refine call_ (WUn base p h g v2 t2 4 (x.bytes.length : Int) w2 kk2.wi (by omega)) ?_
    rintro e w3 ⟨rfl, v3, k3⟩
    refine ⟨_, rfl, ?_⟩
    have e5 : allBs t2.1 ((4 : Nat) : Int) false [(x.bytes.length : Int)] = t2.1 ++ enc 4 (x.bytes.length : Int) := congrArg Prod.fst (noteU4 (t := t2) (n := x.bytes.length) (by omega))
    rw [e5] at k3
    exact hK v3 _ _ ⟨rfl, rfl, rfl, trivial⟩ (kk2.then k3)
  rintro v3 w3 fr3 kk3
  refine seq_cut (σ := Value × WT) (fun _ => [(2, .pointer (some ⟨X, 0, none⟩)), (3, .pointer (some ⟨M, 0, none⟩)), (4, zi (x.bytes.length : Int))]) (fun s w' => Ki w1 base p h g v w' s.1 s.2 ∧ Wri blobT (4 + x.bytes.length) t2 x.bytes s.2) ?_ ?_
  rotate_left
  · intro K hK
    have hX3 := kk3.blk hX1 hXn
    have hM3 := kk3.blk hM1 hMn
    have nd := New.drew w3
    refine draw_ (w := w3) ok (.q 0 (.q 1 (.q 2 (.q 3 (.q 4 (.q 5 (.e 6 .done))))))) [6] (New w3) (by kernel_rfl) (by kernel_rfl) (by kernel_rfl) (by kernel_rfl) (by kernel_rfl) nd ?_
    refine Exists.intro (some ⟨h, 0, none⟩) (And.intro (fun w'' hw => cell0 (hw.blk hX3)) ?_)
    refine Exists.intro (some ⟨g, 0, none⟩) (And.intro (fun w'' hw => cellB (hw.blk kk3.wi.blk) rfl) ?_)
    refine Exists.intro Ab (Exists.intro x.bytes.length (Exists.intro cb (And.intro (fun w'' hw => cellB (hw.blk hM3) rfl) ?_)))
    have kd := kk3.new nd
    obtain ⟨_, _, he, row, _⟩ := bytes_row (LRep.weak (S' := fun b => False) u8Ok (kd.lrep u8Ok (by decide) hb1) fun _ _ e => e.elim)
    cases he
    refine call_ (WBn base p h g v3 _ Ab x.bytes.length cb x.bytes w3.drew kd.wi row rfl (by simp [enc_length]; omega)) ?_
    rintro e w4 ⟨rfl, v4, k4⟩
    refine ⟨_, rfl, ?_⟩
    dsimp only at k4
    rw [List.append_assoc] at k4
    exact hK (v4, _) _ _ ⟨rfl, rfl, rfl, trivial⟩ ⟨kd.then k4, Wri.blob (by omega)⟩
  rintro ⟨v4, t4⟩ w4 fr4 ⟨kk4, q4⟩
  dsimp only at kk4 q4
  have p4 := q4.1
  refine seq_cut (σ := Value × WT) (fun _ => [(2, .pointer (some ⟨X, 0, none⟩)), (3, .pointer (some ⟨M, 0, none⟩))]) (fun s w' => Ki w1 base p h g v w' s.1 s.2 ∧ Wri (hndsT p.l) (2 + csum cHnd x.hands) t4 x.hands s.2) ?_ ?_
  rotate_left
  · intro K hK
    have hX4 := kk4.blk hX1 hXn
    have hM4 := kk4.blk hM1 hMn
    refine Exists.intro (some ⟨h, 0, none⟩) (And.intro (cell0 hX4) ?_)
    refine Exists.intro Ah (Exists.intro x.hands.length (Exists.intro ch (And.intro (cellB hM4 rfl) ?_)))
    refine call_ (list_hnd p base h g v4 t4 _ x.hands X w4 kk4.wi hO (kk4.lrep hndOk (by decide) hh1) hX4 (kk4.hid hXl hXn) (by omega)) ?_
    rintro e w5 ⟨rfl, v5, t5, k5, wr5⟩
    refine ⟨_, rfl, ?_⟩
    exact hK (v5, t5) _ _ ⟨rfl, rfl, trivial⟩ ⟨kk4.then k5, wr5⟩
  rintro ⟨v5, t5⟩ w5 fr5 ⟨kk5, q5⟩
  dsimp only at kk5 q5
  have p5 := q5.1
  try dsimp only at p5
  -- behind its handlers
  have hX5 := kk5.blk hX1 hXn
  have hM5 := kk5.blk hM1 hMn
  have fin : ∀ {v' : Value} {t' : WT} {w' : World}, Ki w1 base p h g v w' v' t' → Wri (optT p.l) (10 + csum cMp x.maps) t5 x.maps t' → ∃ v' t', Ki w base p h g v w' v' t' ∧ Wri (codT p.l) (cCod x) t x t' := fun kk q => by
    refine ⟨_, _, k01.then kk, ?_⟩
    have h1 := Wri.by (b := t.2 || !b) (p := b) (P := fun c : Cod => c.stack ≤ 64 ∧ c.locals ≤ 64 ∧ 0 < c.bytes.length ∧ c.bytes.length ≤ 4096) (f := fun c : Cod => (c.stack, c.locals, c.bytes, c.hands, c.maps)) (hf := fun x y _ _ e => by
      cases x; cases y; cases e; rfl) (Wri.assoc (q2.seq (q4.seq (q5.seq q)))) rfl hb
    exact Wri.le h1 (by rw [hcost]; omega)
  refine seq_cut (σ := Unit) (fun _ => [(2, .pointer (some ⟨X, 0, none⟩)), (3, .pointer (some ⟨M, 0, none⟩))]) (fun _ w' => w' = w5 ∧ x.maps ≠ []) ?_ ?_
  rotate_left
  · intro K hK
    refine Exists.intro Am (Exists.intro x.maps.length (Exists.intro cm (And.intro (cellB hM5 rfl) ?_)))
    refine if_p (fun h0 => ?_) (fun h0 => ?_)
    · replace h0 : (x.maps.length : Int) = 0 := h0
      have hnil : x.maps = [] := List.length_eq_zero_iff.1 (by omega)
      refine Exists.intro (some ⟨h, 0, none⟩) (And.intro (cell0 hX5) ?_)
      refine call_ (two1_ok base p h g v5 t5 [0] 1 w5 kk5.wi rfl (by simp; omega)) ?_
      rintro e w8 ⟨rfl, v8, k8⟩
      refine ⟨_, rfl, ?_⟩
      refine ⟨rfl, fin (kk5.then k8) ?_⟩
      have q := (Wri.n2 (t := t5) (n := 0))
      refine ⟨by have := q.1; omega, q.2.imp (fun e => ⟨e.1, e.2.imp id fun e' => absurd (n2_ok (by decide) (by decide)) e'⟩) fun e => ⟨e.1, e.2.1, .inl hnil, ?_⟩⟩
      rw [e.2.2.2, hnil]
      rfl
    · replace h0 : ¬ (x.maps.length : Int) = 0 := h0
      exact hK () _ _ ⟨rfl, rfl, trivial⟩ ⟨rfl, fun e => h0 (by rw [e]; rfl)⟩
  rintro _ wz frz ⟨hwz, hne⟩
  obtain rfl := hwz.symm
  refine seq_cut (σ := Value × WT) (fun _ => [(2, .pointer (some ⟨X, 0, none⟩)), (3, .pointer (some ⟨M, 0, none⟩))]) (fun s w' => Ki w1 base p h g v w' s.1 s.2 ∧ Wri (n2) (2) t5 1 s.2) ?_ ?_
  rotate_left
  · intro K hK
    have hX5 := kk5.blk hX1 hXn
    have hM5 := kk5.blk hM1 hMn
    refine Exists.intro (some ⟨h, 0, none⟩) (And.intro (cell0 hX5) ?_)
    refine call_ (two1_ok base p h g v5 t5 [1] 1 w5 kk5.wi rfl (by simp; omega)) ?_
    rintro e w6 ⟨rfl, v6, k6⟩
    refine ⟨_, rfl, ?_⟩
    exact hK (v6, _) _ _ ⟨rfl, rfl, trivial⟩ ⟨kk5.then k6, Wri.n2⟩
  rintro ⟨v6, t6⟩ w6 fr6 ⟨kk6, q6⟩
  dsimp only at kk6 q6
  have p6 := q6.1
  try dsimp only at p6
  refine seq_cut (σ := Value × WT) (fun _ => [(2, .pointer (some ⟨X, 0, none⟩)), (3, .pointer (some ⟨M, 0, none⟩))]) (fun s w' => Ki w1 base p h g v w' s.1 s.2 ∧ Wri (utfT p.l) (2) t6 tableS s.2) ?_ ?_
  rotate_left
  · intro K hK
    have hX6 := kk6.blk hX1 hXn
    have hM6 := kk6.blk hM1 hMn
    refine Exists.intro (some ⟨h, 0, none⟩) (And.intro (cell0 hX6) ?_)
    refine call_ (wtext_ok p base h g v6 t6 tableS w6 kk6.wi (by omega)) ?_
    rintro e w7 ⟨rfl, v7, t7, k7, wr7⟩
    refine ⟨_, rfl, ?_⟩
    exact hK (v7, t7) _ _ ⟨rfl, rfl, trivial⟩ ⟨kk6.then k7, wr7⟩
  rintro ⟨v7, t7⟩ w7 fr7 ⟨kk7, q7⟩
  dsimp only at kk7 q7
  have p7 := q7.1
  try dsimp only at p7
  have hX7 := kk7.blk hX1 hXn
  have hM7 := kk7.blk hM1 hMn
  refine seq_cut (σ := Nat × Nat) (fun s => [(2, .pointer (some ⟨X, 0, none⟩)), (3, .pointer (some ⟨M, 0, none⟩)), (5, .pointer (some ⟨s.1, 0, none⟩))]) (fun s w' => New w7 w' ∧ Wi w' base p s.1 s.2 (.slice none 0 0) ([], false) ∧ w7.heap.size ≤ s.1 ∧ w7.heap.size ≤ s.2) ?_ ?_
  rotate_left
  · intro K hK
    refine Exists.intro (some ⟨h, 0, none⟩) (And.intro (cell0 hX7) ?_)
    refine call_ (part_ok base p h g v7 t7 w7 kk7.wi) ?_
    rintro e wp ⟨h', hne', rfl, cp, hle, np⟩
    refine ⟨_, rfl, ?_⟩
    exact hK (h', w7.heap.size) _ _ ⟨rfl, rfl, rfl, trivial⟩ ⟨np, cp, hle, Nat.le_refl _⟩
  rintro ⟨h', g'⟩ wp frp ⟨np, cp, hh', hg'⟩
  dsimp only at cp hh' hg'
  have kp := kk7.new np
  have hXp := np.blk hX7
  have hMp := np.blk hM7
  have own' : ∀ b, WH h' g' (.slice none 0 0) b → w7.heap.size ≤ b := fun b e => by
    rcases e with (e | e) | e
    · omega
    · cases e
    · omega
  refine seq_cut (σ := Value × WT) (fun s => [(2, .pointer (some ⟨X, 0, none⟩)), (3, .pointer (some ⟨M, 0, none⟩)), (5, .pointer (some ⟨h', 0, none⟩))]) (fun s w' => Ki wp base p h' g' (.slice none 0 0) w' s.1 s.2 ∧ Wri (mapsT p.l) (2 + csum cMp x.maps) ([], false) x.maps s.2) ?_ ?_
  rotate_left
  · intro K hK
    refine Exists.intro Am (Exists.intro x.maps.length (Exists.intro cm (And.intro (cellB hMp rfl) ?_)))
    refine call_ (maps_ok p base h' g' (.slice none 0 0) ([], false) _ x.maps wp cp hO (LRep.up mpOk (by decide) (kk7.lrep mpOk (by decide) hm1) np own') (by simp; omega)) ?_
    rintro e wq ⟨rfl, vq, tq, kq, wrq⟩
    refine ⟨_, rfl, ?_⟩
    exact hK (vq, tq) _ _ ⟨rfl, rfl, rfl, trivial⟩ ⟨kq, wrq⟩
  rintro ⟨vq, tq⟩ wq frq ⟨kq, wrq⟩
  dsimp only at kq wrq
  have hlq := wrq.1
  simp only [List.length_nil] at hlq
  have ownq : ∀ b, WH h' g' vq b → w7.heap.size ≤ b := fun b e => by
    rcases e with (e | e) | e
    · omega
    · rcases kq.st b e.symm with e1 | e1
      · cases e1
      · exact Nat.le_trans np.size e1
    · omega
  have hbw7 := kk7.wi.bw
  have cw : Wi wq base p h g v7 t7 := kp.wi.other kq.mod fun b _ e => ⟨Nat.le_trans hbw7 (own' b e), kk7.wi.hi (own' b e)⟩
  have hXq := kq.blk hXp fun e => by
    have h1 := own' X e
    have h2 := (Array.getElem?_eq_some_iff.1 hX7).1
    omega
  refine Exists.intro (some ⟨h, 0, none⟩) (And.intro (cell0 hXq) ?_)
  refine call_ (add_ok p base h g v7 t7 h' g' vq tq wq cw kq.wi (fun b e => kk7.wi.hi (ownq b e)) (by omega)) ?_
  rintro e wr ⟨rfl, vr, kr⟩
  refine ⟨_, rfl, ?_⟩
  have hsz7 := kk7.mod.size
  have kall := kp.also kq.mod (fun b e => Nat.le_trans hsz7 (own' b e)) kr
  have qr := Wri.part (t := t7) wrq
  exact ⟨rfl, fin kall (Wri.le (Wri.opt q6 q7 qr hne) (by omega))⟩

end Go.Proofs.YtdcaafldnbcdkaaDoor.Class

/-! ### KWrite5 -/
namespace Go.Proofs.YtdcaafldnbcdkaaDoor.Class
open Go Go.Proofs.YtdcaafldnbcdkaaDoor Go.Proofs.YtdcaafldnbcdkaaDoor.Eng Go.Proofs Go.Proofs.YtdcaafldnbcdkaaDoor.Word Go.Proofs.YtdcaafldnbcdkaaDoor.Fmt
open Go.Proofs.YtdcaafldnbcdkaaDoor.Pool (Ent at_ poolF strV entC entV EntOk Pl OkPool both own_low tagAt)
set_option maxRecDepth 10000

theorem andNot_small {a m : Int} (ha : i64 a) (hm : m = 8 ∨ m = 40) (h : bits .andNot .i64 a m = 0) : 0 ≤ a ∧ a ≤ 40 := by
  have h1 : IntKind.i64.wrap ((BitVec.ofInt 64 a &&& ~~~ (BitVec.ofInt 64 m)).toNat : Int) = 0 := h
  rw [IntKind.wrap_i64] at h1
  have hlt := (BitVec.ofInt 64 a &&& ~~~ (BitVec.ofInt 64 m)).isLt
  have h2 : (BitVec.ofInt 64 a &&& ~~~ (BitVec.ofInt 64 m)).toNat = 0 := by omega
  have h3 : BitVec.ofInt 64 a &&& ~~~ (BitVec.ofInt 64 m) = 0#64 := BitVec.eq_of_toNat_eq (by rw [h2]; rfl)
  have h4 : BitVec.ofInt 64 a = BitVec.ofInt 64 a &&& BitVec.ofInt 64 m := by
    ext i hi
    have := congrArg (fun x : BitVec 64 => x[i]) h3
    simp only [BitVec.getElem_and, BitVec.getElem_not, BitVec.getElem_zero] at this ⊢
    revert this
    cases (BitVec.ofInt 64 a)[i] <;> cases (BitVec.ofInt 64 m)[i] <;> simp
  have h5 : (BitVec.ofInt 64 a).toNat ≤ 40 := by
    rw [h4, BitVec.toNat_and]
    refine Nat.le_trans Nat.and_le_right ?_
    rcases hm with rfl | rfl <;> decide
  rw [BitVec.toNat_ofInt] at h5
  unfold i64 at ha
  omega
theorem andNot_all : ∀ n : Fin 41, (bits .andNot .i64 (n.val : Int) 8 = 0 ↔ (n.val = 0 ∨ n.val = 8)) ∧ (bits .andNot .i64 (n.val : Int) 40 = 0 ↔ (n.val = 0 ∨ n.val = 8 ∨ n.val = 32 ∨ n.val = 40)) := by decide
theorem andNot8 {a : Int} (ha : i64 a) : decide (bits .andNot .i64 a 8 = 0) = true ↔ a = 0 ∨ a = 8 := by
  rw [decide_eq_true_eq]
  by_cases hr : 0 ≤ a ∧ a ≤ 40
  · have := (andNot_all ⟨a.toNat, by omega⟩).1
    simp only [Int.toNat_of_nonneg hr.1] at this
    rw [this]
    omega
  · exact ⟨fun h => absurd (andNot_small ha (.inl rfl) h) hr, fun h => by omega⟩
theorem andNot40 {a : Int} (ha : i64 a) : decide (bits .andNot .i64 a 40 = 0) = true ↔ a = 0 ∨ a = 8 ∨ a = 32 ∨ a = 40 := by
  rw [decide_eq_true_eq]
  by_cases hr : 0 ≤ a ∧ a ≤ 40
  · have := (andNot_all ⟨a.toNat, by omega⟩).2
    simp only [Int.toNat_of_nonneg hr.1] at this
    rw [this]
    omega
  · exact ⟨fun h => absurd (andNot_small ha (.inr rfl) h) hr, fun h => by omega⟩
theorem fld1_ok (p : Po) (base : Nat) (h g : Nat) (v : Value) (t : WT) (cs : List Value) (x : Fld) (X : Nat) (w : World) (c : Wi w base p h g v t) (hX : w.heap[X]? = some (.cells #[.pointer (some ⟨h, 0, none⟩)] 78 (0, 0))) (hXn : ¬ WH h g v X) (hx : fldR w (WH h g v) cs x) (hf : i64 x.acc) (hm : t.1.length + cFld x ≤ 1000000000) :
    Calls Tryd.prog 40 #[.agg cs.toArray, .pointer (some ⟨X, 0, none⟩)] w fun e w' => e = .returned (.tuple #[]) ∧ ∃ v' t', Ki w base p h g v w' v' t' ∧ Wri (fldT p.l) (cFld x) t x t' := by
  obtain rfl := hx
  unfold cFld at hm
  refine enter ok Tryd.func40 rfl rfl rfl ?_
  obtain ⟨M, hM⟩ : ∃ M, M = w.heap.size := ⟨_, rfl⟩
  refine seq_cut (σ := Unit) (fun _ => [(1, .pointer (some ⟨X, 0, none⟩)), (2, .pointer (some ⟨M, 0, none⟩))]) (fun _ w' => New w w' ∧ w'.heap[M]? = some (.cells #[zi x.acc, strV x.name, strV x.typ] 44 (0, 0))) ?_ ?_
  rotate_left
  · intro K hK
    rw [hM] at hK
    exact hK () _ _ ⟨rfl, rfl, trivial⟩ ⟨New.alloc w _, heap_alloc_new w (.cells #[zi x.acc, strV x.name, strV x.typ] 44)⟩
  rintro _ w0 fr0 ⟨n0, hM0⟩
  have c0 := c.new n0
  have hX0 := n0.blk hX
  have hMn : ¬ WH h g v M := c.hi (by omega)
  refine seq_cut (σ := Bool) (fun _ => [(1, .pointer (some ⟨X, 0, none⟩)), (2, .pointer (some ⟨M, 0, none⟩))]) (fun b w' => Ki w0 base p h g v w' v (t.1, t.2 || !b) ∧ (b = true ↔ x.acc = 0 ∨ x.acc = 8)) ?_ ?_
  rotate_left
  · intro K hK
    refine Exists.intro (some ⟨h, 0, none⟩) (And.intro (cell0 hX0) ?_)
    refine Exists.intro x.acc (And.intro (cellB hM0 rfl) ?_)
    refine call_ (must_ok base p h g v t (decide (bits .andNot .i64 x.acc 8 = 0)) w0 c0) ?_
    rintro e w1 ⟨rfl, k1⟩
    refine ⟨_, rfl, ?_⟩
    exact hK _ _ _ ⟨rfl, rfl, trivial⟩ ⟨k1, andNot8 hf⟩
  rintro b w1 fr1 ⟨k1, hb⟩
  have c1 := k1.wi
  have hX1 := k1.blk hX0 hXn
  have hM1 := k1.blk hM0 hMn
  have k01 := ((Ki.refl c).new n0).then k1
  have kk1 := Ki.refl c1
  refine seq_cut (σ := Value × WT) (fun _ => [(1, .pointer (some ⟨X, 0, none⟩)), (2, .pointer (some ⟨M, 0, none⟩))]) (fun s w' => Ki w1 base p h g v w' s.1 s.2 ∧ Wri (n2) (2) (t.1, t.2 || !b) x.acc s.2) ?_ ?_
  rotate_left
  · intro K hK
    have hX1 := kk1.blk hX1 hXn
    have hM1 := kk1.blk hM1 hMn
    refine Exists.intro (some ⟨h, 0, none⟩) (And.intro (cell0 hX1) ?_)
    refine Exists.intro x.acc (And.intro (cellB hM1 rfl) ?_)
    refine call_ (two1_ok base p h g v (t.1, t.2 || !b) [x.acc] 1 w1 kk1.wi rfl (by simp; omega)) ?_
    rintro e w2 ⟨rfl, v2, k2⟩
    refine ⟨_, rfl, ?_⟩
    exact hK (v2, _) _ _ ⟨rfl, rfl, trivial⟩ ⟨kk1.then k2, Wri.n2⟩
  rintro ⟨v2, t2⟩ w2 fr2 ⟨kk2, q2⟩
  dsimp only at kk2 q2
  have p2 := q2.1
  try dsimp only at p2
  refine seq_cut (σ := Value × WT) (fun _ => [(1, .pointer (some ⟨X, 0, none⟩)), (2, .pointer (some ⟨M, 0, none⟩))]) (fun s w' => Ki w1 base p h g v w' s.1 s.2 ∧ Wri (utfT p.l) (2) t2 x.name s.2) ?_ ?_
  rotate_left
  · intro K hK
    have hX2 := kk2.blk hX1 hXn
    have hM2 := kk2.blk hM1 hMn
    refine Exists.intro (some ⟨h, 0, none⟩) (And.intro (cell0 hX2) ?_)
    refine Exists.intro (⟨x.name.toArray⟩ : ByteArray) (And.intro (cellB hM2 rfl) ?_)
    refine call_ (wtext_ok p base h g v2 t2 x.name w2 kk2.wi (by omega)) ?_
    rintro e w3 ⟨rfl, v3, t3, k3, wr3⟩
    refine ⟨_, rfl, ?_⟩
    exact hK (v3, t3) _ _ ⟨rfl, rfl, trivial⟩ ⟨kk2.then k3, wr3⟩
  rintro ⟨v3, t3⟩ w3 fr3 ⟨kk3, q3⟩
  dsimp only at kk3 q3
  have p3 := q3.1
  try dsimp only at p3
  refine seq_cut (σ := Value × WT) (fun _ => [(1, .pointer (some ⟨X, 0, none⟩)), (2, .pointer (some ⟨M, 0, none⟩))]) (fun s w' => Ki w1 base p h g v w' s.1 s.2 ∧ Wri (utfT p.l) (2) t3 x.typ s.2) ?_ ?_
  rotate_left
  · intro K hK
    have hX3 := kk3.blk hX1 hXn
    have hM3 := kk3.blk hM1 hMn
    refine Exists.intro (some ⟨h, 0, none⟩) (And.intro (cell0 hX3) ?_)
    refine Exists.intro (⟨x.typ.toArray⟩ : ByteArray) (And.intro (cellB hM3 rfl) ?_)
    refine call_ (wtext_ok p base h g v3 t3 x.typ w3 kk3.wi (by omega)) ?_
    rintro e w4 ⟨rfl, v4, t4, k4, wr4⟩
    refine ⟨_, rfl, ?_⟩
    exact hK (v4, t4) _ _ ⟨rfl, rfl, trivial⟩ ⟨kk3.then k4, wr4⟩
  rintro ⟨v4, t4⟩ w4 fr4 ⟨kk4, q4⟩
  dsimp only at kk4 q4
  have p4 := q4.1
  try dsimp only at p4
  have hX4 := kk4.blk hX1 hXn
  have hM4 := kk4.blk hM1 hMn
  refine Exists.intro (some ⟨h, 0, none⟩) (And.intro (cell0 hX4) ?_)
  refine call_ (two1_ok base p h g v4 t4 [0] 1 w4 kk4.wi rfl (by simp; omega)) ?_
  rintro e w5 ⟨rfl, v5, k5⟩
  refine ⟨_, rfl, ?_⟩
  exact ⟨rfl, v5, _, (k01.then kk4).then k5, Wri.le (Wri.by (q2.seq (q3.seq (q4.seq Wri.n2))) rfl hb) (by unfold cFld; omega)⟩
theorem list_fld (p : Po) (base : Nat) (h g : Nat) (v : Value) (t : WT) (vl : Value) (xs : List Fld) (X : Nat)  (w : World) (c : Wi w base p h g v t) (hO : OkPool p.l) (hl : LRep fldR w (WH h g v) vl xs) (hX : w.heap[X]? = some (.cells #[.pointer (some ⟨h, 0, none⟩)] 78 (0, 0))) (hXn : ¬ WH h g v X) (hf : ∀ x ∈ xs, i64 x.acc)  (hm : t.1.length + (2 + csum cFld xs) ≤ 1000000000) :
    Calls Tryd.prog 39 #[.pointer (some ⟨h, 0, none⟩), vl, zi 256, .func (.func 40) #[] #[.pointer (some ⟨X, 0, none⟩)]] w fun e w' => e = .returned (.tuple #[]) ∧ ∃ v' t', Ki w base p h g v w' v' t' ∧ Wri (fldsT p.l) (2 + csum cFld xs) t xs t' := by
  obtain ⟨Al, cl, rfl, h43, _⟩ := hl.get fldOk (by decide)
  refine enter ok Tryd.func39 rfl rfl rfl ?_
  refine seq_cut (σ := Unit) (fun _ => [(0, .pointer (some ⟨h, 0, none⟩)), (1, .slice Al xs.length cl), (3, .func (.func 40) #[] #[.pointer (some ⟨X, 0, none⟩)])]) (fun _ w' => Ki w base p h g v w' v (t.1, t.2 || !decide (xs.length ≤ 256))) ?_ ?_
  rotate_left
  · intro K hK
    refine call_ (must_ok base p h g v t (decide ((xs.length : Int) ≤ 256)) w c) ?_
    rintro e w1 ⟨rfl, k1⟩
    refine ⟨_, rfl, ?_⟩
    have e1 : decide ((xs.length : Int) ≤ 256) = decide (xs.length ≤ 256) := decide_eq_decide.2 (by omega)
    rw [e1] at k1
    exact hK () _ _ ⟨rfl, rfl, rfl, trivial⟩ k1
  rintro _ w1 fr1 k1
  refine seq_cut (σ := Value × WT) (fun _ => [(0, .pointer (some ⟨h, 0, none⟩)), (1, .slice Al xs.length cl), (3, .func (.func 40) #[] #[.pointer (some ⟨X, 0, none⟩)])]) (fun s w' => Ki w base p h g v w' s.1 s.2 ∧ Wri n2 2 (t.1, t.2 || !decide (xs.length ≤ 256)) (xs.length : Int) s.2) ?_ ?_
  rotate_left
  · intro K hK
    refine Exists.intro (t.2 || !decide (xs.length ≤ 256)) (And.intro (cellB k1.wi.blk rfl) ?_)
    cases hbad : (t.2 || !decide (xs.length ≤ 256)) with
    | true =>
      rw [hbad] at k1 hK
      exact hK (v, (t.1, true)) _ _ ⟨rfl, rfl, rfl, trivial⟩ ⟨k1, Wri.bad rfl _ _⟩
    | false =>
      rw [hbad] at k1 hK
      refine call_ (two1_ok base p h g v (t.1, false) [(xs.length : Int)] 1 w1 k1.wi rfl (by simp; omega)) ?_
      rintro e w2 ⟨rfl, v2, k2⟩
      refine ⟨_, rfl, ?_⟩
      exact hK (v2, _) _ _ ⟨rfl, rfl, rfl, trivial⟩ ⟨k1.then k2, Wri.n2⟩
  rintro ⟨v2, t2⟩ w2 fr2 ⟨k2, wr2⟩
  dsimp only at k2 wr2
  refine seq_cut (σ := Unit) (fun _ => [(0, .pointer (some ⟨h, 0, none⟩)), (3, .func (.func 40) #[] #[.pointer (some ⟨X, 0, none⟩)]), (26, .slice Al xs.length cl), (27, zi (xs.length : Int)), (28, zi 0)]) (fun _ w' => w' = w2) ?_ ?_
  rotate_left
  · intro K hK
    exact hK () _ _ ⟨rfl, rfl, rfl, rfl, rfl, trivial⟩ rfl
  rintro _ wy fry hwy
  obtain rfl := hwy.symm
  refine den_loop (σ := Nat × Value × WT) (fun s => [(0, .pointer (some ⟨h, 0, none⟩)), (3, .func (.func 40) #[] #[.pointer (some ⟨X, 0, none⟩)]), (26, .slice Al xs.length cl), (27, zi (xs.length : Int)), (28, zi (s.1 : Int))])
    (fun m s wl => m + s.1 = xs.length ∧ Ki w base p h g v wl s.2.1 s.2.2 ∧ WLst (fldT p.l) 256 cFld t xs s.1 s.2.2) xs.length (0, v2, t2) ⟨rfl, rfl, rfl, rfl, rfl, trivial⟩ ⟨rfl, k2, WLst.start (by decide) wr2⟩ ?_
  rintro m ⟨i, v3, t3⟩ wl frl ⟨hfuel, kl, hw⟩
  dsimp only at hfuel kl hw
  refine if_p (fun hlt => ?_) (fun hge => ?_)
  · replace hlt : (i : Int) < (xs.length : Int) := hlt
    have hi : i < xs.length := by omega
    obtain ⟨m, rfl⟩ : ∃ m', m = m' + 1 := ⟨m - 1, by omega⟩
    have inc := incN hi h43
    obtain ⟨Al', cl', he, _, gx⟩ := (kl.lrep fldOk (by decide) hl).get fldOk (by decide)
    cases he
    obtain ⟨a, cs, ea, hx, hc⟩ := gx i hi
    have hcs : csum cFld (xs.take i) + cFld xs[i] ≤ csum cFld xs := by
      have h1 := csum_le cFld xs (i + 1)
      rw [List.take_succ_eq_append_getElem hi, csum_snoc] at h1
      exact h1
    have hw1 := hw.1
    have hmem : xs[i] ∈ xs := List.getElem_mem hi
    obtain ⟨y, hy⟩ : ∃ y, y = xs[i] := ⟨_, rfl⟩
    rw [← hy] at hx hcs hmem
    have hx0 := hx
    obtain rfl := hx
    refine And.intro (by omega) (And.intro hlt ?_)
    refine some_at ea ?_
    refine loadN_row (vs := [zi y.acc, strV y.name, strV y.typ]) (fun j u hu => by rw [Int.toNat_natCast]; exact hc j u hu) rfl ?_
    refine And.intro rfl ?_
    refine storeNew (vs := [zi y.acc, strV y.name, strV y.typ]) (arr := #[zi 0, .string ⟨#[]⟩, .string ⟨#[]⟩]) rfl (fldOk.one hx0) ?_
    intro w5 hb5 n5 s5
    have k5 := kl.new n5
    refine Exists.intro t3.2 (And.intro (cellB k5.wi.blk rfl) ?_)
    refine if_ (fun hbad => ?_) (fun hbad => ?_)
    · exact ⟨rfl, v3, t3, k5, hw.stop hbad⟩
    refine skip_ (thenF_ ?_)
    refine loadN_row (vs := [zi y.acc, strV y.name, strV y.typ]) (rowB hb5) rfl ?_
    refine call_ (fld1_ok p base h g v3 t3 _ y X w5 k5.wi (n5.blk (kl.blk hX hXn)) (kl.hid (Array.getElem?_eq_some_iff.1 hX).1 hXn) (fldOk.mod hx0 n5.mod) (hf y hmem) (by omega)) ?_
    rintro e w6 ⟨rfl, v6, t6, k6, wr6⟩
    refine ⟨_, rfl, ?_⟩
    exact ⟨m, (i + 1, v6, t6), by omega, ⟨rfl, rfl, rfl, rfl, inc, trivial⟩, by dsimp only; omega, k5.then k6, hw.step hi (by rw [← hy]; exact wr6)⟩
  · replace hge : ¬ (i : Int) < (xs.length : Int) := hge
    obtain rfl : i = xs.length := by omega
    exact ⟨rfl, v3, t3, kl, hw.done⟩

theorem mth1_ok (p : Po) (base : Nat) (h g : Nat) (v : Value) (t : WT) (cs : List Value) (x : Mth) (X : Nat) (w : World) (c : Wi w base p h g v t) (hO : OkPool p.l) (hX : w.heap[X]? = some (.cells #[.pointer (some ⟨h, 0, none⟩)] 78 (0, 0))) (hXn : ¬ WH h g v X) (hx : mthR w (WH h g v) cs x) (hf : i64 x.acc) (hm : t.1.length + cMth x ≤ 1000000000) :
    Calls Tryd.prog 44 #[.agg cs.toArray, .pointer (some ⟨X, 0, none⟩)] w fun e w' => e = .returned (.tuple #[]) ∧ ∃ v' t', Ki w base p h g v w' v' t' ∧ Wri (mthT p.l) (cMth x) t x t' := by
  have hcost : cMth x = 14 + cCod x.code := rfl
  obtain ⟨_, _, _, rfl, hb0, hh0, hm0⟩ := hx
  obtain ⟨Ab, cb, rfl, hnb, _⟩ := hb0.get u8Ok (by decide)
  obtain ⟨Ah, ch, rfl, hnh, _⟩ := hh0.get hndOk (by decide)
  obtain ⟨Am, cm, rfl, hnm, _⟩ := hm0.get mpOk (by decide)
  have hc0 : codR w (WH h g v) [zi x.code.stack, zi x.code.locals, .slice Ab x.code.bytes.length cb, .slice Ah x.code.hands.length ch, .slice Am x.code.maps.length cm] x.code := ⟨_, _, _, rfl, hb0, hh0, hm0⟩
  refine enter ok Tryd.func44 rfl rfl rfl ?_
  obtain ⟨M, hM⟩ : ∃ M, M = w.heap.size := ⟨_, rfl⟩
  refine seq_cut (σ := Unit) (fun _ => [(1, .pointer (some ⟨X, 0, none⟩)), (2, .pointer (some ⟨M, 0, none⟩))]) (fun _ w' => New w w' ∧ w'.heap[M]? = some (.cells #[zi x.acc, strV x.name, strV x.typ, zi x.code.stack, zi x.code.locals, .slice Ab x.code.bytes.length cb, .slice Ah x.code.hands.length ch, .slice Am x.code.maps.length cm] 36 (0, 0))) ?_ ?_
  rotate_left
  · intro K hK
    rw [hM] at hK
    exact hK () _ _ ⟨rfl, rfl, trivial⟩ ⟨New.alloc w _, heap_alloc_new w (.cells #[zi x.acc, strV x.name, strV x.typ, zi x.code.stack, zi x.code.locals, .slice Ab x.code.bytes.length cb, .slice Ah x.code.hands.length ch, .slice Am x.code.maps.length cm] 36)⟩
  rintro _ w0 fr0 ⟨n0, hM0⟩
  have c0 := c.new n0
  have hX0 := n0.blk hX
  have hMn : ¬ WH h g v M := c.hi (by omega)
  refine seq_cut (σ := Bool) (fun _ => [(1, .pointer (some ⟨X, 0, none⟩)), (2, .pointer (some ⟨M, 0, none⟩))]) (fun b w' => Ki w0 base p h g v w' v (t.1, t.2 || !b) ∧ (b = true ↔ x.acc = 0 ∨ x.acc = 8 ∨ x.acc = 32 ∨ x.acc = 40)) ?_ ?_
  rotate_left
  · intro K hK
    refine Exists.intro (some ⟨h, 0, none⟩) (And.intro (cell0 hX0) ?_)
    refine Exists.intro x.acc (And.intro (cellB hM0 rfl) ?_)
    refine call_ (must_ok base p h g v t (decide (bits .andNot .i64 x.acc 40 = 0)) w0 c0) ?_
    rintro e w1 ⟨rfl, k1⟩
    refine ⟨_, rfl, ?_⟩
    exact hK _ _ _ ⟨rfl, rfl, trivial⟩ ⟨k1, andNot40 hf⟩
  rintro b w1 fr1 ⟨k1, hb⟩
  have c1 := k1.wi
  have hX1 := k1.blk hX0 hXn
  have hM1 := k1.blk hM0 hMn
  have k01 := ((Ki.refl c).new n0).then k1
  have hc1 := k01.rep codOk hc0
  have rowM : ∀ {w' : World}, w'.heap[M]? = some (.cells #[zi x.acc, strV x.name, strV x.typ, zi x.code.stack, zi x.code.locals, .slice Ab x.code.bytes.length cb, .slice Ah x.code.hands.length ch, .slice Am x.code.maps.length cm] 36 (0, 0)) → ∀ (j : Nat) (u : Value), [zi x.code.stack, zi x.code.locals, .slice Ab x.code.bytes.length cb, .slice Ah x.code.hands.length ch, .slice Am x.code.maps.length cm][j]? = some u → w'.cell? (((⟨M, 0, none⟩ : Addr).add 3).add j) = some u := fun hM j u hu => by
    rw [add_add_]
    refine cellB hM ?_
    rw [← hu, ← Array.getElem?_toList]
    show ([zi x.acc, strV x.name, strV x.typ] ++ [zi x.code.stack, zi x.code.locals, .slice Ab x.code.bytes.length cb, .slice Ah x.code.hands.length ch, .slice Am x.code.maps.length cm])[3 + j]? = _
    rw [List.getElem?_append_right (show 3 ≤ 3 + j by omega)]
    show [zi x.code.stack, zi x.code.locals, .slice Ab x.code.bytes.length cb, .slice Ah x.code.hands.length ch, .slice Am x.code.maps.length cm][3 + j - 3]? = _
    rw [Nat.add_sub_cancel_left]
  have kk1 := Ki.refl c1
  refine seq_cut (σ := Value × WT) (fun _ => [(1, .pointer (some ⟨X, 0, none⟩)), (2, .pointer (some ⟨M, 0, none⟩))]) (fun s w' => Ki w1 base p h g v w' s.1 s.2 ∧ Wri (n2) (2) (t.1, t.2 || !b) x.acc s.2) ?_ ?_
  rotate_left
  · intro K hK
    have hX1 := kk1.blk hX1 hXn
    have hM1 := kk1.blk hM1 hMn
    refine Exists.intro (some ⟨h, 0, none⟩) (And.intro (cell0 hX1) ?_)
    refine Exists.intro x.acc (And.intro (cellB hM1 rfl) ?_)
    refine call_ (two1_ok base p h g v (t.1, t.2 || !b) [x.acc] 1 w1 kk1.wi rfl (by simp; omega)) ?_
    rintro e w2 ⟨rfl, v2, k2⟩
    refine ⟨_, rfl, ?_⟩
    exact hK (v2, _) _ _ ⟨rfl, rfl, trivial⟩ ⟨kk1.then k2, Wri.n2⟩
  rintro ⟨v2, t2⟩ w2 fr2 ⟨kk2, q2⟩
  dsimp only at kk2 q2
  have p2 := q2.1
  try dsimp only at p2
  refine seq_cut (σ := Value × WT) (fun _ => [(1, .pointer (some ⟨X, 0, none⟩)), (2, .pointer (some ⟨M, 0, none⟩))]) (fun s w' => Ki w1 base p h g v w' s.1 s.2 ∧ Wri (utfT p.l) (2) t2 x.name s.2) ?_ ?_
  rotate_left
  · intro K hK
    have hX2 := kk2.blk hX1 hXn
    have hM2 := kk2.blk hM1 hMn
    refine Exists.intro (some ⟨h, 0, none⟩) (And.intro (cell0 hX2) ?_)
    refine Exists.intro (⟨x.name.toArray⟩ : ByteArray) (And.intro (cellB hM2 rfl) ?_)
    refine call_ (wtext_ok p base h g v2 t2 x.name w2 kk2.wi (by omega)) ?_
    rintro e w3 ⟨rfl, v3, t3, k3, wr3⟩
    refine ⟨_, rfl, ?_⟩
    exact hK (v3, t3) _ _ ⟨rfl, rfl, trivial⟩ ⟨kk2.then k3, wr3⟩
  rintro ⟨v3, t3⟩ w3 fr3 ⟨kk3, q3⟩
  dsimp only at kk3 q3
  have p3 := q3.1
  try dsimp only at p3
  refine seq_cut (σ := Value × WT) (fun _ => [(1, .pointer (some ⟨X, 0, none⟩)), (2, .pointer (some ⟨M, 0, none⟩))]) (fun s w' => Ki w1 base p h g v w' s.1 s.2 ∧ Wri (utfT p.l) (2) t3 x.typ s.2) ?_ ?_
  rotate_left
  · intro K hK
    have hX3 := kk3.blk hX1 hXn
    have hM3 := kk3.blk hM1 hMn
    refine Exists.intro (some ⟨h, 0, none⟩) (And.intro (cell0 hX3) ?_)
    refine Exists.intro (⟨x.typ.toArray⟩ : ByteArray) (And.intro (cellB hM3 rfl) ?_)
    refine call_ (wtext_ok p base h g v3 t3 x.typ w3 kk3.wi (by omega)) ?_
    rintro e w4 ⟨rfl, v4, t4, k4, wr4⟩
    refine ⟨_, rfl, ?_⟩
    exact hK (v4, t4) _ _ ⟨rfl, rfl, trivial⟩ ⟨kk3.then k4, wr4⟩
  rintro ⟨v4, t4⟩ w4 fr4 ⟨kk4, q4⟩
  dsimp only at kk4 q4
  have p4 := q4.1
  try dsimp only at p4
  refine seq_cut (σ := Value × WT) (fun _ => [(1, .pointer (some ⟨X, 0, none⟩)), (2, .pointer (some ⟨M, 0, none⟩))]) (fun s w' => Ki w1 base p h g v w' s.1 s.2 ∧ Wri (n2) (2) t4 1 s.2) ?_ ?_
  rotate_left
  · intro K hK
    have hX4 := kk4.blk hX1 hXn
    have hM4 := kk4.blk hM1 hMn
    refine Exists.intro (some ⟨h, 0, none⟩) (And.intro (cell0 hX4) ?_)
    refine call_ (two1_ok base p h g v4 t4 [1] 1 w4 kk4.wi rfl (by simp; omega)) ?_
    rintro e w5 ⟨rfl, v5, k5⟩
    refine ⟨_, rfl, ?_⟩
    exact hK (v5, _) _ _ ⟨rfl, rfl, trivial⟩ ⟨kk4.then k5, Wri.n2⟩
  rintro ⟨v5, t5⟩ w5 fr5 ⟨kk5, q5⟩
  dsimp only at kk5 q5
  have p5 := q5.1
  try dsimp only at p5
  refine seq_cut (σ := Value × WT) (fun _ => [(1, .pointer (some ⟨X, 0, none⟩)), (2, .pointer (some ⟨M, 0, none⟩))]) (fun s w' => Ki w1 base p h g v w' s.1 s.2 ∧ Wri (utfT p.l) (2) t5 codeS s.2) ?_ ?_
  rotate_left
  · intro K hK
    have hX5 := kk5.blk hX1 hXn
    have hM5 := kk5.blk hM1 hMn
    refine Exists.intro (some ⟨h, 0, none⟩) (And.intro (cell0 hX5) ?_)
    refine call_ (wtext_ok p base h g v5 t5 codeS w5 kk5.wi (by omega)) ?_
    rintro e w6 ⟨rfl, v6, t6, k6, wr6⟩
    refine ⟨_, rfl, ?_⟩
    exact hK (v6, t6) _ _ ⟨rfl, rfl, trivial⟩ ⟨kk5.then k6, wr6⟩
  rintro ⟨v6, t6⟩ w6 fr6 ⟨kk6, q6⟩
  dsimp only at kk6 q6
  have p6 := q6.1
  try dsimp only at p6
  have hX6 := kk6.blk hX1 hXn
  have hM6 := kk6.blk hM1 hMn
  refine seq_cut (σ := Nat × Nat) (fun s => [(1, .pointer (some ⟨X, 0, none⟩)), (2, .pointer (some ⟨M, 0, none⟩)), (3, .pointer (some ⟨s.1, 0, none⟩))]) (fun s w' => New w6 w' ∧ Wi w' base p s.1 s.2 (.slice none 0 0) ([], false) ∧ w6.heap.size ≤ s.1 ∧ w6.heap.size ≤ s.2) ?_ ?_
  rotate_left
  · intro K hK
    refine Exists.intro (some ⟨h, 0, none⟩) (And.intro (cell0 hX6) ?_)
    refine call_ (part_ok base p h g v6 t6 w6 kk6.wi) ?_
    rintro e wp ⟨h', hne', rfl, cp, hle, np⟩
    refine ⟨_, rfl, ?_⟩
    exact hK (h', w6.heap.size) _ _ ⟨rfl, rfl, rfl, trivial⟩ ⟨np, cp, hle, Nat.le_refl _⟩
  rintro ⟨h', g'⟩ wp frp ⟨np, cp, hh', hg'⟩
  dsimp only at cp hh' hg'
  have kp := kk6.new np
  have hXp := np.blk hX6
  have hMp := np.blk hM6
  have own' : ∀ b, WH h' g' (.slice none 0 0) b → w6.heap.size ≤ b := fun b e => by
    rcases e with (e | e) | e
    · omega
    · cases e
    · omega
  refine seq_cut (σ := Value × WT) (fun s => [(1, .pointer (some ⟨X, 0, none⟩)), (2, .pointer (some ⟨M, 0, none⟩)), (3, .pointer (some ⟨h', 0, none⟩))]) (fun s w' => Ki wp base p h' g' (.slice none 0 0) w' s.1 s.2 ∧ Wri (codT p.l) (cCod x.code) ([], false) x.code s.2) ?_ ?_
  rotate_left
  · intro K hK
    refine loadN_row (vs := [zi x.code.stack, zi x.code.locals, .slice Ab x.code.bytes.length cb, .slice Ah x.code.hands.length ch, .slice Am x.code.maps.length cm]) (fun j u hu => rowM hMp j u hu) rfl ?_
    refine call_ (code_ok p base h' g' (.slice none 0 0) ([], false) _ x.code wp cp hO (rep_up codOk (kk6.rep codOk hc1) np own') (by simp; omega)) ?_
    rintro e wq ⟨rfl, vq, tq, kq, wrq⟩
    refine ⟨_, rfl, ?_⟩
    exact hK (vq, tq) _ _ ⟨rfl, rfl, rfl, trivial⟩ ⟨kq, wrq⟩
  rintro ⟨vq, tq⟩ wq frq ⟨kq, wrq⟩
  dsimp only at kq wrq
  have hlq := wrq.1
  simp only [List.length_nil] at hlq
  have ownq : ∀ b, WH h' g' vq b → w6.heap.size ≤ b := fun b e => by
    rcases e with (e | e) | e
    · omega
    · rcases kq.st b e.symm with e1 | e1
      · cases e1
      · exact Nat.le_trans np.size e1
    · omega
  have hbw6 := kk6.wi.bw
  have cw : Wi wq base p h g v6 t6 := kp.wi.other kq.mod fun b _ e => ⟨Nat.le_trans hbw6 (own' b e), kk6.wi.hi (own' b e)⟩
  have hXq := kq.blk hXp fun e => by
    have h1 := own' X e
    have h2 := (Array.getElem?_eq_some_iff.1 hX6).1
    omega
  refine Exists.intro (some ⟨h, 0, none⟩) (And.intro (cell0 hXq) ?_)
  refine call_ (add_ok p base h g v6 t6 h' g' vq tq wq cw kq.wi (fun b e => kk6.wi.hi (ownq b e)) (by omega)) ?_
  rintro e wr ⟨rfl, vr, kr⟩
  refine ⟨_, rfl, ?_⟩
  have hsz6 := kk6.mod.size
  have kall := kp.also kq.mod (fun b e => Nat.le_trans hsz6 (own' b e)) kr
  have qr := Wri.part (t := t6) wrq
  exact ⟨rfl, vr, _, k01.then kall, Wri.le (Wri.by (q2.seq (q3.seq (q4.seq (q5.seq (q6.seq qr))))) rfl hb) (by rw [hcost]; omega)⟩
theorem list_mth (p : Po) (base : Nat) (h g : Nat) (v : Value) (t : WT) (vl : Value) (xs : List Mth) (X : Nat)  (w : World) (c : Wi w base p h g v t) (hO : OkPool p.l) (hl : LRep mthR w (WH h g v) vl xs) (hX : w.heap[X]? = some (.cells #[.pointer (some ⟨h, 0, none⟩)] 78 (0, 0))) (hXn : ¬ WH h g v X) (hf : ∀ x ∈ xs, i64 x.acc)  (hm : t.1.length + (2 + csum cMth xs) ≤ 1000000000) :
    Calls Tryd.prog 43 #[.pointer (some ⟨h, 0, none⟩), vl, zi 256, .func (.func 44) #[] #[.pointer (some ⟨X, 0, none⟩)]] w fun e w' => e = .returned (.tuple #[]) ∧ ∃ v' t', Ki w base p h g v w' v' t' ∧ Wri (mthsT p.l) (2 + csum cMth xs) t xs t' := by
  obtain ⟨Al, cl, rfl, h43, _⟩ := hl.get mthOk (by decide)
  refine enter ok Tryd.func43 rfl rfl rfl ?_
  refine seq_cut (σ := Unit) (fun _ => [(0, .pointer (some ⟨h, 0, none⟩)), (1, .slice Al xs.length cl), (3, .func (.func 44) #[] #[.pointer (some ⟨X, 0, none⟩)])]) (fun _ w' => Ki w base p h g v w' v (t.1, t.2 || !decide (xs.length ≤ 256))) ?_ ?_
  rotate_left
  · intro K hK
    refine call_ (must_ok base p h g v t (decide ((xs.length : Int) ≤ 256)) w c) ?_
    rintro e w1 ⟨rfl, k1⟩
    refine ⟨_, rfl, ?_⟩
    have e1 : decide ((xs.length : Int) ≤ 256) = decide (xs.length ≤ 256) := decide_eq_decide.2 (by omega)
    rw [e1] at k1
    exact hK () _ _ ⟨rfl, rfl, rfl, trivial⟩ k1
  rintro _ w1 fr1 k1
  refine seq_cut (σ := Value × WT) (fun _ => [(0, .pointer (some ⟨h, 0, none⟩)), (1, .slice Al xs.length cl), (3, .func (.func 44) #[] #[.pointer (some ⟨X, 0, none⟩)])]) (fun s w' => Ki w base p h g v w' s.1 s.2 ∧ Wri n2 2 (t.1, t.2 || !decide (xs.length ≤ 256)) (xs.length : Int) s.2) ?_ ?_
  rotate_left
  · intro K hK
    refine Exists.intro (t.2 || !decide (xs.length ≤ 256)) (And.intro (cellB k1.wi.blk rfl) ?_)
    cases hbad : (t.2 || !decide (xs.length ≤ 256)) with
    | true =>
      rw [hbad] at k1 hK
      exact hK (v, (t.1, true)) _ _ ⟨rfl, rfl, rfl, trivial⟩ ⟨k1, Wri.bad rfl _ _⟩
    | false =>
      rw [hbad] at k1 hK
      refine call_ (two1_ok base p h g v (t.1, false) [(xs.length : Int)] 1 w1 k1.wi rfl (by simp; omega)) ?_
      rintro e w2 ⟨rfl, v2, k2⟩
      refine ⟨_, rfl, ?_⟩
      exact hK (v2, _) _ _ ⟨rfl, rfl, rfl, trivial⟩ ⟨k1.then k2, Wri.n2⟩
  rintro ⟨v2, t2⟩ w2 fr2 ⟨k2, wr2⟩
  dsimp only at k2 wr2
  refine seq_cut (σ := Unit) (fun _ => [(0, .pointer (some ⟨h, 0, none⟩)), (3, .func (.func 44) #[] #[.pointer (some ⟨X, 0, none⟩)]), (26, .slice Al xs.length cl), (27, zi (xs.length : Int)), (28, zi 0)]) (fun _ w' => w' = w2) ?_ ?_
  rotate_left
  · intro K hK
    exact hK () _ _ ⟨rfl, rfl, rfl, rfl, rfl, trivial⟩ rfl
  rintro _ wy fry hwy
  obtain rfl := hwy.symm
  refine den_loop (σ := Nat × Value × WT) (fun s => [(0, .pointer (some ⟨h, 0, none⟩)), (3, .func (.func 44) #[] #[.pointer (some ⟨X, 0, none⟩)]), (26, .slice Al xs.length cl), (27, zi (xs.length : Int)), (28, zi (s.1 : Int))])
    (fun m s wl => m + s.1 = xs.length ∧ Ki w base p h g v wl s.2.1 s.2.2 ∧ WLst (mthT p.l) 256 cMth t xs s.1 s.2.2) xs.length (0, v2, t2) ⟨rfl, rfl, rfl, rfl, rfl, trivial⟩ ⟨rfl, k2, WLst.start (by decide) wr2⟩ ?_
  rintro m ⟨i, v3, t3⟩ wl frl ⟨hfuel, kl, hw⟩
  dsimp only at hfuel kl hw
  refine if_p (fun hlt => ?_) (fun hge => ?_)
  · replace hlt : (i : Int) < (xs.length : Int) := hlt
    have hi : i < xs.length := by omega
    obtain ⟨m, rfl⟩ : ∃ m', m = m' + 1 := ⟨m - 1, by omega⟩
    have inc := incN hi h43
    obtain ⟨Al', cl', he, _, gx⟩ := (kl.lrep mthOk (by decide) hl).get mthOk (by decide)
    cases he
    obtain ⟨a, cs, ea, hx, hc⟩ := gx i hi
    have hcs : csum cMth (xs.take i) + cMth xs[i] ≤ csum cMth xs := by
      have h1 := csum_le cMth xs (i + 1)
      rw [List.take_succ_eq_append_getElem hi, csum_snoc] at h1
      exact h1
    have hw1 := hw.1
    have hmem : xs[i] ∈ xs := List.getElem_mem hi
    obtain ⟨y, hy⟩ : ∃ y, y = xs[i] := ⟨_, rfl⟩
    rw [← hy] at hx hcs hmem
    have hx0 := hx
    obtain ⟨_, _, _, rfl, hy1, hy2, hy3⟩ := hx
    obtain ⟨Ab, cb, rfl, _⟩ := hy1.get u8Ok (by decide)
    obtain ⟨Ah, ch, rfl, _⟩ := hy2.get hndOk (by decide)
    obtain ⟨Am, cm, rfl, _⟩ := hy3.get mpOk (by decide)
    refine And.intro (by omega) (And.intro hlt ?_)
    refine some_at ea ?_
    refine loadN_row (vs := [zi y.acc, strV y.name, strV y.typ, zi y.code.stack, zi y.code.locals, .slice Ab y.code.bytes.length cb, .slice Ah y.code.hands.length ch, .slice Am y.code.maps.length cm]) (fun j u hu => by rw [Int.toNat_natCast]; exact hc j u hu) rfl ?_
    refine And.intro rfl ?_
    refine storeNew (vs := [zi y.acc, strV y.name, strV y.typ, zi y.code.stack, zi y.code.locals, .slice Ab y.code.bytes.length cb, .slice Ah y.code.hands.length ch, .slice Am y.code.maps.length cm]) (arr := #[zi 0, .string ⟨#[]⟩, .string ⟨#[]⟩, zi 0, zi 0, .slice none 0 0, .slice none 0 0, .slice none 0 0]) rfl (mthOk.one hx0) ?_
    intro w5 hb5 n5 s5
    have k5 := kl.new n5
    refine Exists.intro t3.2 (And.intro (cellB k5.wi.blk rfl) ?_)
    refine if_ (fun hbad => ?_) (fun hbad => ?_)
    · exact ⟨rfl, v3, t3, k5, hw.stop hbad⟩
    refine skip_ (thenF_ ?_)
    refine loadN_row (vs := [zi y.acc, strV y.name, strV y.typ, zi y.code.stack, zi y.code.locals, .slice Ab y.code.bytes.length cb, .slice Ah y.code.hands.length ch, .slice Am y.code.maps.length cm]) (rowB hb5) rfl ?_
    refine call_ (mth1_ok p base h g v3 t3 _ y X w5 k5.wi hO (n5.blk (kl.blk hX hXn)) (kl.hid (Array.getElem?_eq_some_iff.1 hX).1 hXn) (mthOk.mod hx0 n5.mod) (hf y hmem) (by omega)) ?_
    rintro e w6 ⟨rfl, v6, t6, k6, wr6⟩
    refine ⟨_, rfl, ?_⟩
    exact ⟨m, (i + 1, v6, t6), by omega, ⟨rfl, rfl, rfl, rfl, inc, trivial⟩, by dsimp only; omega, k5.then k6, hw.step hi (by rw [← hy]; exact wr6)⟩
  · replace hge : ¬ (i : Int) < (xs.length : Int) := hge
    obtain rfl : i = xs.length := by omega
    exact ⟨rfl, v3, t3, kl, hw.done⟩


end Go.Proofs.YtdcaafldnbcdkaaDoor.Class

/-! ### KPrint -/
namespace Go.Proofs.YtdcaafldnbcdkaaDoor.Class
open Go Go.Proofs.YtdcaafldnbcdkaaDoor Go.Proofs.YtdcaafldnbcdkaaDoor.Eng Go.Proofs Go.Proofs.YtdcaafldnbcdkaaDoor.Word Go.Proofs.YtdcaafldnbcdkaaDoor.Fmt
open Go.Proofs.YtdcaafldnbcdkaaDoor.Pool (Ent at_ poolF strV entC entV EntOk Pl OkPool both own_low tagAt)
set_option maxRecDepth 10000

theorem enc_len {l : List Ent} (ho : Pool.okB l = true) (hn : ∀ x ∈ l, EntOk x) : (poolF.enc l).length ≤ 100000000 := by
  have hO := (Pool.okB_iff l).1 ho
  have h1 := Pool.ents_take_len hO hn l.length (Nat.le_refl _)
  rw [List.take_length] at h1
  have h2 := hO.2
  show (enc 2 (l.length : Int) ++ Pool.ents (l.drop 1)).length ≤ _
  rw [Pool.ents_all hO.1, List.length_append, enc_length]
  omega
def fCls (c : Cls) : Prop := (∀ x ∈ c.pool, EntOk x) ∧ (∀ f ∈ c.fields, i64 f.acc) ∧ ∀ m ∈ c.methods, i64 m.acc
def cCls (c : Cls) : Nat := csum cFld c.fields + csum cMth c.methods
def PrRes (w : World) (c : Cls) (e : Ending) (w' : World) : Prop := ∃ A q, e = .returned (.tuple #[.slice A (bytesOf c).length q, zi (errOf c)]) ∧ Row w' A (bvs (bytesOf c)) ∧ (bytesOf c).length ≤ q ∧ q ≤ 9223372036854775807 ∧ New w w'
theorem pr_bad {w w' : World} {c : Cls} {er : Int} (h : errOf c = er ∧ bytesOf c = []) (n : New w w') : PrRes w c (.returned (.tuple #[.slice none 0 0, .int .i64 er])) w' :=
  ⟨none, 0, by rw [h.1, h.2]; rfl, by rw [h.2]; exact Row.nil _ _, by rw [h.2]; exact Nat.le_refl _, by omega, n⟩
theorem wri_file {d : Nat} {c : Cls} {t : WT} (h : Wri fileT d ([], false) c t) : (t.2 = true → errOf c = 80 ∧ bytesOf c = []) ∧ (t.2 = false → 32768 < t.1.length → errOf c = 3 ∧ bytesOf c = []) ∧ (t.2 = false → t.1.length ≤ 32768 → errOf c = 0 ∧ bytesOf c = t.1) := by
  obtain ⟨_, h⟩ := h
  unfold errOf bytesOf
  rcases h with ⟨a, b⟩ | ⟨a, _, o, e⟩
  · have hb : ¬ fileT.ok c := by
      rcases b with b | b
      · cases b
      · exact b
    refine ⟨fun _ => ⟨if_neg hb, if_neg fun h => hb h.1⟩, fun h => ?_, fun h => ?_⟩
    · rw [h] at a; cases a
    · rw [h] at a; cases a
  · rw [List.nil_append] at e
    rw [← e, if_pos o]
    refine ⟨fun h => ?_, fun _ h => ⟨if_neg (by omega), if_neg (by omega)⟩, fun _ h => ⟨if_pos h, if_pos ⟨o, h⟩⟩⟩
    rw [h] at a; cases a
theorem not_pool {c : Cls} (h : Pool.okB c.pool = false) : errOf c = 80 ∧ bytesOf c = [] := by
  have hn : ¬ fileT.ok c := fun o => by
    have h1 : Pool.okB c.pool = true := o.2.2.2.2.1.1
    rw [h] at h1
    cases h1
  unfold errOf bytesOf
  exact ⟨if_neg hn, if_neg fun h => hn h.1⟩
theorem Wri.pool {t : WT} {l : List Ent} (h : poolF.ok l) : Wri (tF poolF) (poolF.enc l).length t l (t.1 ++ poolF.enc l, t.2) := by
  refine ⟨by simp, ?_⟩
  cases ht : t.2 with
  | true => exact .inl ⟨rfl, .inl rfl⟩
  | false => exact .inr ⟨rfl, rfl, h, rfl⟩
theorem Wri.sup0 {l : List Ent} {t t1 : WT} {s : List UInt8} (h : Wri Class.n2 2 t 0 t1) (hs : s = []) : Wri (supT l) 2 t s t1 := by
  refine ⟨h.1, ?_⟩
  rcases h.2 with ⟨a, b⟩ | ⟨a, b, o, e⟩
  · exact .inl ⟨a, b.imp id fun b _ => b (n2_ok (by decide) (by decide))⟩
  · refine .inr ⟨a, b, .inl hs, ?_⟩
    rw [e]
    show _ = t.1 ++ (if s = [] then enc 2 0 else _)
    rw [if_pos hs]
    rfl
theorem Wri.sup1 {l : List Ent} {t t1 : WT} {s : List UInt8} (h : Wri (clsT l) 2 t s t1) (hs : s ≠ []) : Wri (supT l) 2 t s t1 := by
  refine ⟨h.1, ?_⟩
  rcases h.2 with ⟨a, b⟩ | ⟨a, b, o, e⟩
  · exact .inl ⟨a, b.imp id fun b o => b (o.resolve_left hs)⟩
  · refine .inr ⟨a, b, .inr o, ?_⟩
    rw [e]
    show _ = t.1 ++ (if s = [] then enc 2 0 else _)
    rw [if_neg hs]
theorem goodMagic : good ((4 : Nat) : Int) false [3405691582] = true := by decide
theorem start {w1 w4 w5 : World} {p : Po} {h g X : Nat} (cx : Cx w1 w1.heap.size p) (hg : w1.heap.size ≤ g) (hh : w1.heap.size ≤ h) (hx : w1.heap.size ≤ X) (ne : h ≠ g) (nh : X ≠ h) (ng : X ≠ g) (n : New w1 w4)
    (hb : w4.heap[g]? = some (.cells #[.slice none 0 0, .int .i64 0, .bool true] 125 (0, 0))) (hh4 : w4.heap[h]? = some (.cells #[.pointer (some ⟨g, 0, none⟩), p.v, .bool false] 82 (0, 0))) (m5 : Mod (fun b => b = X) w4 w5) : Wi w5 w1.heap.size p h g (.slice none 0 0) ([], false) ∧ New w1 w5 := by
  have n5 : New w1 w5 := n.st m5 hx
  exact ⟨⟨m5.blk hh4 (fun e => nh e.symm), ⟨m5.blk hb (fun e => ng e.symm), ⟨rfl, .inl ⟨rfl, rfl⟩⟩, (fun e => (by cases e))⟩, ne, (fun e => (by cases e)), hh, hg, cx.new n5⟩, n5⟩
theorem Print_ok (cs0 : List Value) (c : Cls) (S : Nat → Prop) (w : World) (hx : clsR w S cs0 c) (hf : fCls c) (hk : Kt w) (hG : 0 < w.heap.size) (hm : cCls c ≤ 500000000) :
    Calls Tryd.prog 13 #[.agg cs0.toArray] w (PrRes w c) := by
  replace hx := clsOk.weak (S' := fun b => w.heap.size + 1 ≤ b) hx fun b hb e => by omega
  obtain ⟨_, _, _, rfl, lp, lf, lm⟩ := hx
  obtain ⟨hfp, hff, hfm⟩ := hf
  have hcost : cCls c = csum cFld c.fields + csum cMth c.methods := rfl
  obtain ⟨A, q, rfl, pl, hq1, hq2, plow⟩ := pool_row lp hfp
  obtain ⟨_, _, _, hpn, _⟩ := lp.get entOk (by decide)
  have lf0 := lf
  obtain ⟨Af, cf, rfl, hnf, _⟩ := lf.get fldOk (by decide)
  have lm0 := lm
  obtain ⟨Am, cm, rfl, hnm, _⟩ := lm.get mthOk (by decide)
  refine enter ok Tryd.func13 rfl rfl rfl ?_
  obtain ⟨M, hMe⟩ : ∃ M, M = w.heap.size := ⟨_, rfl⟩
  refine seq_cut (σ := Unit) (fun _ => [(1, .pointer (some ⟨M, 0, none⟩))]) (fun _ w' => New w w' ∧ w'.heap.size = w.heap.size + 1 ∧ w'.heap[M]? = some (.cells #[.slice A c.pool.length q, strV c.name, strV c.super, .slice Af c.fields.length cf, .slice Am c.methods.length cm] 26 (0, 0))) ?_ ?_
  rotate_left
  · intro K hK
    rw [hMe] at hK
    exact hK () _ _ ⟨rfl, trivial⟩ ⟨New.alloc w _, by simp, heap_alloc_new w (.cells #[.slice A c.pool.length q, strV c.name, strV c.super, .slice Af c.fields.length cf, .slice Am c.methods.length cm] 26)⟩
  rintro _ wa fra ⟨na, sa, hMa⟩
  obtain ⟨base, hbase⟩ : ∃ base, base = wa.heap.size := ⟨_, rfl⟩
  obtain ⟨p, hp⟩ : ∃ p : Po, p = ⟨A, q, c.pool⟩ := ⟨_, rfl⟩
  have cx : Cx wa wa.heap.size p := by
    subst hp
    exact ⟨pl.new na, fun a ha hn => by have := (plow a ha hn).1; omega, fun k h0 h5 => na.cell (hk k h0 h5), by omega, Nat.le_refl _, hpn⟩
  refine seq_cut (σ := Nat × Nat × Nat) (fun s => [(1, .pointer (some ⟨M, 0, none⟩)), (4, .pointer (some ⟨s.2.2, 0, none⟩))]) (fun s w' => Wi w' wa.heap.size p s.1 s.2.1 (.slice none 0 0) ([], false) ∧ New wa w' ∧ w'.heap[s.2.2]? = some (.cells #[.pointer (some ⟨s.1, 0, none⟩)] 78 (0, 0)) ∧ s.2.2 ≠ s.1 ∧ s.2.2 ≠ s.2.1 ∧ wa.heap.size ≤ s.2.2) ?_ ?_
  rotate_left
  · intro K hK
    have nd := New.drew wa
    subst hp
    have zd : wa.drew.heap.size = wa.heap.size := rfl
    refine draw_ (w := wa) ok (.q 1 (.q 2 (.br (.e 0 (.q 3 (.br (.e 4 (.e 5 (.e 6 .done))) (.e 5 (.e 4 (.e 6 .done)))))) (.e 5 (.e 0 (.q 3 (.e 4 (.e 6 .done)))))))) [6] (New wa) (by kernel_rfl) (by kernel_rfl) (by kernel_rfl) (by kernel_rfl) (by kernel_rfl) nd ?_
    refine Exists.intro A (Exists.intro c.pool.length (Exists.intro q (And.intro (fun w'' hw => cellB (hw.blk hMa) rfl) ?_)))
    refine And.intro ?_ ?_
    · refine call_ (Make_ok wa.drew) ?_
      rintro e w2 ⟨rfl, wr2, n2, s2⟩
      refine ⟨_, rfl, ?_⟩
      refine Exists.intro (New wa) (And.intro (fun _ h => h) (And.intro (nd.trans n2) ?_))
      refine And.intro ?_ ?_
      · have n3 := New.alloc w2 (.cells #[.pointer (some ⟨wa.heap.size, 0, none⟩), .slice A c.pool.length q, .bool false] 82)
        have hb3 := heap_alloc_new w2 (.cells #[.pointer (some ⟨wa.heap.size, 0, none⟩), .slice A c.pool.length q, .bool false] 82)
        have s3 : (w2.alloc (.cells #[.pointer (some ⟨wa.heap.size, 0, none⟩), .slice A c.pool.length q, .bool false] 82)).heap.size = wa.heap.size + 2 := by simp; omega
        refine Exists.intro (New wa) (And.intro (fun _ h => h) (And.intro ((nd.trans n2).trans n3) ?_))
        have n4 := New.alloc (w2.alloc (.cells #[.pointer (some ⟨wa.heap.size, 0, none⟩), .slice A c.pool.length q, .bool false] 82)) (.cells #[.pointer none] 78)
        have hb4 := heap_alloc_new (w2.alloc (.cells #[.pointer (some ⟨wa.heap.size, 0, none⟩), .slice A c.pool.length q, .bool false] 82)) (.cells #[.pointer none] 78)
        refine Exists.intro (New wa) (And.intro (fun _ h => h) (And.intro (((nd.trans n2).trans n3).trans n4) ?_))
        refine And.intro ⟨_, cell0 hb4⟩ (And.intro (fz0 hb4) (force_ ?_))
        refine st0 hb4 (show (0 : Nat) < 1 by decide) ?_
        intro w5 hX5 m5 s5
        have sst := start (h := w2.heap.size) (g := wa.heap.size) (X := (w2.alloc (.cells #[.pointer (some ⟨wa.heap.size, 0, none⟩), .slice A c.pool.length q, .bool false] 82)).heap.size) cx (by omega) (by omega) (by omega) (by omega) (by omega) (by omega) (((nd.trans n2).trans n3).trans n4) (n4.blk (n3.blk wr2.blk)) (n4.blk hb3) m5
        exact hK (w2.heap.size, wa.heap.size, (w2.alloc (.cells #[.pointer (some ⟨wa.heap.size, 0, none⟩), .slice A c.pool.length q, .bool false] 82)).heap.size) _ _ ⟨rfl, rfl, trivial⟩ ⟨sst.1, sst.2, hX5, by dsimp only; omega, by dsimp only; omega, by dsimp only; omega⟩
      · have n3 := New.alloc w2 (.cells #[.pointer none] 78)
        have hb3 := heap_alloc_new w2 (.cells #[.pointer none] 78)
        have s3 : (w2.alloc (.cells #[.pointer none] 78)).heap.size = wa.heap.size + 2 := by simp; omega
        refine Exists.intro (New wa) (And.intro (fun _ h => h) (And.intro ((nd.trans n2).trans n3) ?_))
        have n4 := New.alloc (w2.alloc (.cells #[.pointer none] 78)) (.cells #[.pointer (some ⟨wa.heap.size, 0, none⟩), .slice A c.pool.length q, .bool false] 82)
        have hb4 := heap_alloc_new (w2.alloc (.cells #[.pointer none] 78)) (.cells #[.pointer (some ⟨wa.heap.size, 0, none⟩), .slice A c.pool.length q, .bool false] 82)
        refine Exists.intro (New wa) (And.intro (fun _ h => h) (And.intro (((nd.trans n2).trans n3).trans n4) ?_))
        refine And.intro ⟨_, cell0 (n4.blk hb3)⟩ (And.intro (fz0 (n4.blk hb3)) (force_ ?_))
        refine st0 (n4.blk hb3) (show (0 : Nat) < 1 by decide) ?_
        intro w5 hX5 m5 s5
        have sst := start (h := (w2.alloc (.cells #[.pointer none] 78)).heap.size) (g := wa.heap.size) (X := w2.heap.size) cx (by omega) (by omega) (by omega) (by omega) (by omega) (by omega) (((nd.trans n2).trans n3).trans n4) (n4.blk (n3.blk wr2.blk)) hb4 m5
        exact hK ((w2.alloc (.cells #[.pointer none] 78)).heap.size, wa.heap.size, w2.heap.size) _ _ ⟨rfl, rfl, trivial⟩ ⟨sst.1, sst.2, hX5, by dsimp only; omega, by dsimp only; omega, by dsimp only; omega⟩
    · have n1 := New.alloc wa.drew (.cells #[.pointer none] 78)
      have hb1 := heap_alloc_new wa.drew (.cells #[.pointer none] 78)
      have s1 : (wa.drew.alloc (.cells #[.pointer none] 78)).heap.size = wa.heap.size + 1 := by simp
      refine Exists.intro (New wa) (And.intro (fun _ h => h) (And.intro (nd.trans n1) ?_))
      refine call_ (Make_ok (wa.drew.alloc (.cells #[.pointer none] 78))) ?_
      rintro e w2 ⟨rfl, wr2, n2, s2⟩
      refine ⟨_, rfl, ?_⟩
      refine Exists.intro (New wa) (And.intro (fun _ h => h) (And.intro ((nd.trans n1).trans n2) ?_))
      have n4 := New.alloc w2 (.cells #[.pointer (some ⟨(wa.drew.alloc (.cells #[.pointer none] 78)).heap.size, 0, none⟩), .slice A c.pool.length q, .bool false] 82)
      have hb4 := heap_alloc_new w2 (.cells #[.pointer (some ⟨(wa.drew.alloc (.cells #[.pointer none] 78)).heap.size, 0, none⟩), .slice A c.pool.length q, .bool false] 82)
      refine Exists.intro (New wa) (And.intro (fun _ h => h) (And.intro (((nd.trans n1).trans n2).trans n4) ?_))
      refine And.intro ⟨_, cell0 (n4.blk (n2.blk hb1))⟩ (And.intro (fz0 (n4.blk (n2.blk hb1))) (force_ ?_))
      refine st0 (n4.blk (n2.blk hb1)) (show (0 : Nat) < 1 by decide) ?_
      intro w5 hX5 m5 s5
      have hz : wa.drew.heap.size = wa.heap.size := rfl
      have sst := start (h := w2.heap.size) (g := (wa.drew.alloc (.cells #[.pointer none] 78)).heap.size) (X := wa.drew.heap.size) cx (by omega) (by omega) (by omega) (by omega) (by omega) (by omega) (((nd.trans n1).trans n2).trans n4) (n4.blk wr2.blk) hb4 m5
      exact hK (w2.heap.size, (wa.drew.alloc (.cells #[.pointer none] 78)).heap.size, wa.drew.heap.size) _ _ ⟨rfl, rfl, trivial⟩ ⟨sst.1, sst.2, hX5, by dsimp only; omega, by dsimp only; omega, by dsimp only; omega⟩
  rintro ⟨h, g, X⟩ w1 fr1 ⟨c1, n1, hX1, hXh, hXg, hXb⟩
  dsimp only at c1 hX1 hXh hXg hXb
  rw [← hbase] at c1 hXb
  have hM1 := n1.blk hMa
  have hMn : ¬ WH h g (.slice none 0 0) M := fun e => by
    have := c1.at_ e
    omega
  have hXn : ¬ WH h g (.slice none 0 0) X := by
    rintro ((e | e) | e)
    · exact hXg e
    · cases e
    · exact hXh e
  have hXl : X < w1.heap.size := (Array.getElem?_eq_some_iff.1 hX1).1
  have n01 := na.trans n1
  have hbl : base = w.heap.size + 1 := by omega
  have hf1 : LRep fldR w1 (WH h g (.slice none 0 0)) (.slice Af c.fields.length cf) c.fields := LRep.weak fldOk (LRep.mod fldOk (by decide) lf0 (n01.mod.mono fun _ _ e => False.elim e)) fun b _ e => by have := c1.at_ e; omega
  have hm1 : LRep mthR w1 (WH h g (.slice none 0 0)) (.slice Am c.methods.length cm) c.methods := LRep.weak mthOk (LRep.mod mthOk (by decide) lm0 (n01.mod.mono fun _ _ e => False.elim e)) fun b _ e => by have := c1.at_ e; omega
  have fresh : ∀ {w' : World} {v' : Value} {t' : WT}, Ki w1 base p h g (.slice none 0 0) w' v' t' → New w w' := fun k => Mod.trans n01 k.mod fun b hb e => by have := c1.at_ e; omega
  have hpl : p.l = c.pool := by rw [hp]
  subst hp
  have kk1 := Ki.refl c1
  refine seq_cut (σ := Value × WT) (fun _ => [(1, .pointer (some ⟨M, 0, none⟩)), (4, .pointer (some ⟨X, 0, none⟩))]) (fun s w' => Ki w1 base ⟨A, q, c.pool⟩ h g (.slice none 0 0) w' s.1 s.2 ∧ Wri (n4) (4) ([], false) 3405691582 s.2) ?_ ?_
  rotate_left
  · intro K hK
    have hX1 := kk1.blk hX1 hXn
    have hM1 := kk1.blk hM1 hMn
    refine Exists.intro (some ⟨h, 0, none⟩) (And.intro (cell0 hX1) ?_)
    refine Exists.intro (some ⟨g, 0, none⟩) (And.intro (cellB kk1.wi.blk rfl) ?_)
    refine call_ (WUn base ⟨A, q, c.pool⟩ h g (.slice none 0 0) ([], false) 4 3405691582 w1 kk1.wi (by simp)) ?_
    rintro e w2 ⟨rfl, v2, k2⟩
    refine ⟨_, rfl, ?_⟩
    rw [← noteU_good goodMagic] at k2
    exact hK (v2, _) _ _ ⟨rfl, rfl, trivial⟩ ⟨kk1.then k2, Wri.n4⟩
  rintro ⟨v2, t2⟩ w2 fr2 ⟨kk2, q2⟩
  dsimp only at kk2 q2
  have p2 := q2.1
  try dsimp only at p2
  simp only [List.length_nil] at p2
  refine seq_cut (σ := Value × WT) (fun _ => [(1, .pointer (some ⟨M, 0, none⟩)), (4, .pointer (some ⟨X, 0, none⟩))]) (fun s w' => Ki w1 base ⟨A, q, c.pool⟩ h g (.slice none 0 0) w' s.1 s.2 ∧ Wri (seqT n2 n2) (4) t2 (0, 52) s.2) ?_ ?_
  rotate_left
  · intro K hK
    have hX2 := kk2.blk hX1 hXn
    have hM2 := kk2.blk hM1 hMn
    refine Exists.intro (some ⟨h, 0, none⟩) (And.intro (cell0 hX2) ?_)
    refine call_ (two1_ok base ⟨A, q, c.pool⟩ h g v2 t2 [0, 52] 2 w2 kk2.wi rfl (by simp; omega)) ?_
    rintro e w3 ⟨rfl, v3, k3⟩
    refine ⟨_, rfl, ?_⟩
    exact hK (v3, _) _ _ ⟨rfl, rfl, trivial⟩ ⟨kk2.then k3, Wri.two⟩
  rintro ⟨v3, t3⟩ w3 fr3 ⟨kk3, q3⟩
  dsimp only at kk3 q3
  have p3 := q3.1
  try dsimp only at p3
  refine seq_cut (σ := Value) (fun _ => [(1, .pointer (some ⟨M, 0, none⟩)), (4, .pointer (some ⟨X, 0, none⟩))]) (fun v' w' => Ki w1 base ⟨A, q, c.pool⟩ h g (.slice none 0 0) w' v' (t3.1 ++ poolF.enc c.pool, t3.2) ∧ Pool.okB c.pool = true) ?_ ?_
  rotate_left
  · intro K hK
    have hX3 := kk3.blk hX1 hXn
    have hM3 := kk3.blk hM1 hMn
    have nd := New.drew w3
    have kd := kk3.new nd
    have hC : (fun w'' : World => w''.heap[X]? = some (.cells #[.pointer (some ⟨h, 0, none⟩)] 78 (0, 0)) ∧ w''.heap[M]? = some (.cells #[.slice A c.pool.length q, strV c.name, strV c.super, .slice Af c.fields.length cf, .slice Am c.methods.length cm] 26 (0, 0)) ∧ w''.heap[h]? = some (.cells #[.pointer (some ⟨g, 0, none⟩), .slice A c.pool.length q, .bool t3.2] 82 (0, 0))) w3.drew := ⟨nd.blk hX3, nd.blk hM3, kd.wi.blk⟩
    rcases (Pool.chk_cases c.pool).symm with ⟨hc, ho⟩ | ⟨hc, ho⟩
    · refine draw_ (w := w3) ok (.q 0 (.q 1 (.q 2 (.q 3 (.q 4 (.q 5 (.e 6 (.q 7 .done)))))))) [7] (fun w'' : World => w''.heap[X]? = some (.cells #[.pointer (some ⟨h, 0, none⟩)] 78 (0, 0)) ∧ w''.heap[M]? = some (.cells #[.slice A c.pool.length q, strV c.name, strV c.super, .slice Af c.fields.length cf, .slice Am c.methods.length cm] 26 (0, 0)) ∧ w''.heap[h]? = some (.cells #[.pointer (some ⟨g, 0, none⟩), .slice A c.pool.length q, .bool t3.2] 82 (0, 0))) (by kernel_rfl) (by kernel_rfl) (by kernel_rfl) (by kernel_rfl) (by kernel_rfl) hC ?_
      refine Exists.intro (some ⟨h, 0, none⟩) (And.intro (fun w'' hw => cell0 hw.1) ?_)
      refine Exists.intro (some ⟨g, 0, none⟩) (And.intro (fun w'' hw => cellB hw.2.2 rfl) ?_)
      refine Exists.intro A (Exists.intro c.pool.length (Exists.intro q (And.intro (fun w'' hw => cellB hw.2.1 rfl) ?_)))
      refine call_ (Pool.Write_ok base g v3 t3.1 A c.pool.length q c.pool w3.drew kd.wi.wr kd.wi.cx.pl (fun a ha hn e => by have h1 := kd.wi.cx.low a ha hn; have h2 := kd.wi.at_ (.inl e); omega) (by omega) kd.wi.bw) ?_
      rintro e w4 ⟨rfl, v4, k4⟩
      refine ⟨_, rfl, ?_⟩
      have kj := kd.wi.act k4
      refine Exists.intro (fun w'' : World => w''.heap[X]? = some (.cells #[.pointer (some ⟨h, 0, none⟩)] 78 (0, 0)) ∧ w''.heap[M]? = some (.cells #[.slice A c.pool.length q, strV c.name, strV c.super, .slice Af c.fields.length cf, .slice Am c.methods.length cm] 26 (0, 0)) ∧ w''.heap[h]? = some (.cells #[.pointer (some ⟨g, 0, none⟩), .slice A c.pool.length q, .bool t3.2] 82 (0, 0))) ?_
      refine And.intro (fun _ h => h) ?_
      refine And.intro ⟨kj.blk hC.1 (kd.hid hXl hXn), kj.blk hC.2.1 (kd.hid (Array.getElem?_eq_some_iff.1 hM1).1 hMn), kj.wi.blk⟩ ?_
      rw [hc]
      rw [ho, if_pos rfl] at kj
      exact hK v4 _ _ ⟨rfl, rfl, trivial⟩ ⟨kd.then kj, ho⟩
    · refine draw_ (w := w3) ok (.q 0 (.q 1 (.q 2 (.q 3 (.q 4 (.q 5 (.e 6 (.q 7 .done)))))))) [7] (fun w'' : World => w''.heap[X]? = some (.cells #[.pointer (some ⟨h, 0, none⟩)] 78 (0, 0)) ∧ w''.heap[M]? = some (.cells #[.slice A c.pool.length q, strV c.name, strV c.super, .slice Af c.fields.length cf, .slice Am c.methods.length cm] 26 (0, 0)) ∧ w''.heap[h]? = some (.cells #[.pointer (some ⟨g, 0, none⟩), .slice A c.pool.length q, .bool t3.2] 82 (0, 0))) (by kernel_rfl) (by kernel_rfl) (by kernel_rfl) (by kernel_rfl) (by kernel_rfl) hC ?_
      refine Exists.intro (some ⟨h, 0, none⟩) (And.intro (fun w'' hw => cell0 hw.1) ?_)
      refine Exists.intro (some ⟨g, 0, none⟩) (And.intro (fun w'' hw => cellB hw.2.2 rfl) ?_)
      refine Exists.intro A (Exists.intro c.pool.length (Exists.intro q (And.intro (fun w'' hw => cellB hw.2.1 rfl) ?_)))
      refine call_ (Pool.Write_ok base g v3 t3.1 A c.pool.length q c.pool w3.drew kd.wi.wr kd.wi.cx.pl (fun a ha hn e => by have h1 := kd.wi.cx.low a ha hn; have h2 := kd.wi.at_ (.inl e); omega) (by omega) kd.wi.bw) ?_
      rintro e w4 ⟨rfl, v4, k4⟩
      refine ⟨_, rfl, ?_⟩
      have kj := kd.wi.act k4
      refine Exists.intro (fun w'' : World => w''.heap[X]? = some (.cells #[.pointer (some ⟨h, 0, none⟩)] 78 (0, 0)) ∧ w''.heap[M]? = some (.cells #[.slice A c.pool.length q, strV c.name, strV c.super, .slice Af c.fields.length cf, .slice Am c.methods.length cm] 26 (0, 0)) ∧ w''.heap[h]? = some (.cells #[.pointer (some ⟨g, 0, none⟩), .slice A c.pool.length q, .bool t3.2] 82 (0, 0))) ?_
      refine And.intro (fun _ h => h) ?_
      refine And.intro ⟨kj.blk hC.1 (kd.hid hXl hXn), kj.blk hC.2.1 (kd.hid (Array.getElem?_eq_some_iff.1 hM1).1 hMn), kj.wi.blk⟩ ?_
      rw [hc]
      exact pr_bad (not_pool ho) (fresh (kd.then kj))
  rintro v4 w4 fr4 ⟨kk4, ho⟩
  have hO : OkPool c.pool := (Pool.okB_iff c.pool).1 ho
  have q4 := Wri.pool (t := t3) (l := c.pool) ⟨ho, fun x hx => (hfp x hx).n⟩
  have hel := enc_len ho hfp
  generalize (t3.1 ++ poolF.enc c.pool, t3.2) = t4 at kk4 q4
  have p4 := q4.1
  refine seq_cut (σ := Value × WT) (fun _ => [(1, .pointer (some ⟨M, 0, none⟩)), (4, .pointer (some ⟨X, 0, none⟩))]) (fun s w' => Ki w1 base ⟨A, q, c.pool⟩ h g (.slice none 0 0) w' s.1 s.2 ∧ Wri (n2) (2) t4 33 s.2) ?_ ?_
  rotate_left
  · intro K hK
    have hX4 := kk4.blk hX1 hXn
    have hM4 := kk4.blk hM1 hMn
    refine Exists.intro (some ⟨h, 0, none⟩) (And.intro (cell0 hX4) ?_)
    refine call_ (two1_ok base ⟨A, q, c.pool⟩ h g v4 t4 [33] 1 w4 kk4.wi rfl (by simp; omega)) ?_
    rintro e w5 ⟨rfl, v5, k5⟩
    refine ⟨_, rfl, ?_⟩
    exact hK (v5, _) _ _ ⟨rfl, rfl, trivial⟩ ⟨kk4.then k5, Wri.n2⟩
  rintro ⟨v5, t5⟩ w5 fr5 ⟨kk5, q5⟩
  dsimp only at kk5 q5
  have p5 := q5.1
  try dsimp only at p5
  refine seq_cut (σ := Value × WT) (fun _ => [(1, .pointer (some ⟨M, 0, none⟩)), (4, .pointer (some ⟨X, 0, none⟩))]) (fun s w' => Ki w1 base ⟨A, q, c.pool⟩ h g (.slice none 0 0) w' s.1 s.2 ∧ Wri (clsT c.pool) (2) t5 c.name s.2) ?_ ?_
  rotate_left
  · intro K hK
    have hX5 := kk5.blk hX1 hXn
    have hM5 := kk5.blk hM1 hMn
    refine Exists.intro (some ⟨h, 0, none⟩) (And.intro (cell0 hX5) ?_)
    refine Exists.intro (⟨c.name.toArray⟩ : ByteArray) (And.intro (cellB hM5 rfl) ?_)
    refine call_ (wclass_ok ⟨A, q, c.pool⟩ base h g v5 t5 c.name w5 kk5.wi hO (by omega)) ?_
    rintro e w6 ⟨rfl, v6, t6, k6, wr6⟩
    refine ⟨_, rfl, ?_⟩
    exact hK (v6, t6) _ _ ⟨rfl, rfl, trivial⟩ ⟨kk5.then k6, wr6⟩
  rintro ⟨v6, t6⟩ w6 fr6 ⟨kk6, q6⟩
  dsimp only at kk6 q6
  have p6 := q6.1
  try dsimp only at p6
  refine seq_cut (σ := Value × WT) (fun _ => [(1, .pointer (some ⟨M, 0, none⟩)), (4, .pointer (some ⟨X, 0, none⟩))]) (fun s w' => Ki w1 base ⟨A, q, c.pool⟩ h g (.slice none 0 0) w' s.1 s.2 ∧ Wri (supT c.pool) 2 t6 c.super s.2) ?_ ?_
  rotate_left
  · intro K hK
    have hX6 := kk6.blk hX1 hXn
    have hM6 := kk6.blk hM1 hMn
    refine Exists.intro (⟨c.super.toArray⟩ : ByteArray) (And.intro (cellB hM6 rfl) ?_)
    refine if_ (fun hs => ?_) (fun hs => ?_)
    · rw [nil_str, decide_eq_true_eq] at hs
      refine Exists.intro (some ⟨h, 0, none⟩) (And.intro (cell0 hX6) ?_)
      refine call_ (two1_ok base ⟨A, q, c.pool⟩ h g v6 t6 [0] 1 w6 kk6.wi rfl (by simp; omega)) ?_
      rintro e w7 ⟨rfl, v7, k7⟩
      refine ⟨_, rfl, ?_⟩
      exact hK (v7, _) _ _ ⟨rfl, rfl, trivial⟩ ⟨kk6.then k7, Wri.sup0 Wri.n2 hs⟩
    · rw [nil_str, decide_eq_false_iff_not] at hs
      refine Exists.intro (some ⟨h, 0, none⟩) (And.intro (cell0 hX6) ?_)
      refine Exists.intro (⟨c.super.toArray⟩ : ByteArray) (And.intro (cellB hM6 rfl) ?_)
      refine call_ (wclass_ok ⟨A, q, c.pool⟩ base h g v6 t6 c.super w6 kk6.wi hO (by omega)) ?_
      rintro e w7 ⟨rfl, v7, t7, k7, wr7⟩
      refine ⟨_, rfl, ?_⟩
      exact hK (v7, t7) _ _ ⟨rfl, rfl, trivial⟩ ⟨kk6.then k7, Wri.sup1 wr7 hs⟩
  rintro ⟨v7, t7⟩ w7 fr7 ⟨kk7, q7⟩
  dsimp only at kk7 q7
  have p7 := q7.1
  refine seq_cut (σ := Value × WT) (fun _ => [(1, .pointer (some ⟨M, 0, none⟩)), (4, .pointer (some ⟨X, 0, none⟩))]) (fun s w' => Ki w1 base ⟨A, q, c.pool⟩ h g (.slice none 0 0) w' s.1 s.2 ∧ Wri (n2) (2) t7 0 s.2) ?_ ?_
  rotate_left
  · intro K hK
    have hX7 := kk7.blk hX1 hXn
    have hM7 := kk7.blk hM1 hMn
    refine Exists.intro (some ⟨h, 0, none⟩) (And.intro (cell0 hX7) ?_)
    refine call_ (two1_ok base ⟨A, q, c.pool⟩ h g v7 t7 [0] 1 w7 kk7.wi rfl (by simp; omega)) ?_
    rintro e w8 ⟨rfl, v8, k8⟩
    refine ⟨_, rfl, ?_⟩
    exact hK (v8, _) _ _ ⟨rfl, rfl, trivial⟩ ⟨kk7.then k8, Wri.n2⟩
  rintro ⟨v8, t8⟩ w8 fr8 ⟨kk8, q8⟩
  dsimp only at kk8 q8
  have p8 := q8.1
  try dsimp only at p8
  refine seq_cut (σ := Value × WT) (fun _ => [(1, .pointer (some ⟨M, 0, none⟩)), (4, .pointer (some ⟨X, 0, none⟩))]) (fun s w' => Ki w1 base ⟨A, q, c.pool⟩ h g (.slice none 0 0) w' s.1 s.2 ∧ Wri (fldsT c.pool) (2 + csum cFld c.fields) t8 c.fields s.2) ?_ ?_
  rotate_left
  · intro K hK
    have hX8 := kk8.blk hX1 hXn
    have hM8 := kk8.blk hM1 hMn
    refine Exists.intro (some ⟨h, 0, none⟩) (And.intro (cell0 hX8) ?_)
    refine Exists.intro Af (Exists.intro c.fields.length (Exists.intro cf (And.intro (cellB hM8 rfl) ?_)))
    refine call_ (list_fld ⟨A, q, c.pool⟩ base h g v8 t8 _ c.fields X w8 kk8.wi hO (kk8.lrep fldOk (by decide) hf1) hX8 (kk8.hid hXl hXn) hff (by omega)) ?_
    rintro e w9 ⟨rfl, v9, t9, k9, wr9⟩
    refine ⟨_, rfl, ?_⟩
    exact hK (v9, t9) _ _ ⟨rfl, rfl, trivial⟩ ⟨kk8.then k9, wr9⟩
  rintro ⟨v9, t9⟩ w9 fr9 ⟨kk9, q9⟩
  dsimp only at kk9 q9
  have p9 := q9.1
  try dsimp only at p9
  refine seq_cut (σ := Value × WT) (fun _ => [(1, .pointer (some ⟨M, 0, none⟩)), (4, .pointer (some ⟨X, 0, none⟩))]) (fun s w' => Ki w1 base ⟨A, q, c.pool⟩ h g (.slice none 0 0) w' s.1 s.2 ∧ Wri (mthsT c.pool) (2 + csum cMth c.methods) t9 c.methods s.2) ?_ ?_
  rotate_left
  · intro K hK
    have hX9 := kk9.blk hX1 hXn
    have hM9 := kk9.blk hM1 hMn
    refine Exists.intro (some ⟨h, 0, none⟩) (And.intro (cell0 hX9) ?_)
    refine Exists.intro Am (Exists.intro c.methods.length (Exists.intro cm (And.intro (cellB hM9 rfl) ?_)))
    refine call_ (list_mth ⟨A, q, c.pool⟩ base h g v9 t9 _ c.methods X w9 kk9.wi hO (kk9.lrep mthOk (by decide) hm1) hX9 (kk9.hid hXl hXn) hfm (by omega)) ?_
    rintro e w10 ⟨rfl, v10, t10, k10, wr10⟩
    refine ⟨_, rfl, ?_⟩
    exact hK (v10, t10) _ _ ⟨rfl, rfl, trivial⟩ ⟨kk9.then k10, wr10⟩
  rintro ⟨v10, t10⟩ w10 fr10 ⟨kk10, q10⟩
  dsimp only at kk10 q10
  have p10 := q10.1
  try dsimp only at p10
  refine seq_cut (σ := Value × WT) (fun _ => [(1, .pointer (some ⟨M, 0, none⟩)), (4, .pointer (some ⟨X, 0, none⟩))]) (fun s w' => Ki w1 base ⟨A, q, c.pool⟩ h g (.slice none 0 0) w' s.1 s.2 ∧ Wri (n2) (2) t10 0 s.2) ?_ ?_
  rotate_left
  · intro K hK
    have hX10 := kk10.blk hX1 hXn
    have hM10 := kk10.blk hM1 hMn
    refine Exists.intro (some ⟨h, 0, none⟩) (And.intro (cell0 hX10) ?_)
    refine call_ (two1_ok base ⟨A, q, c.pool⟩ h g v10 t10 [0] 1 w10 kk10.wi rfl (by simp; omega)) ?_
    rintro e w11 ⟨rfl, v11, k11⟩
    refine ⟨_, rfl, ?_⟩
    exact hK (v11, _) _ _ ⟨rfl, rfl, trivial⟩ ⟨kk10.then k11, Wri.n2⟩
  rintro ⟨v11, t11⟩ w11 fr11 ⟨kk11, q11⟩
  dsimp only at kk11 q11
  have p11 := q11.1
  try dsimp only at p11
  have hfile := wri_file (Wri.by_ (q2.seq (Wri.assoc (q3.seq (Wri.dseq q4 (q5.seq (q6.seq (q7.seq (q8.seq (q9.seq (q10.seq q11)))))))))))
  have hX11 := kk11.blk hX1 hXn
  have nw := fresh kk11
  refine seq_cut (σ := Unit) (fun _ => [(1, .pointer (some ⟨M, 0, none⟩)), (4, .pointer (some ⟨X, 0, none⟩))]) (fun _ w' => w' = w11 ∧ t11.2 = false ∧ t11.1.length ≤ 32768) ?_ ?_
  rotate_left
  · intro K hK
    refine block_ ?_
    refine Exists.intro (some ⟨h, 0, none⟩) (And.intro (cell0 hX11) ?_)
    refine Exists.intro t11.2 (And.intro (cellB kk11.wi.blk rfl) ?_)
    refine if_ (fun hbad => ?_) (fun hbad => ?_)
    · exact pr_bad (hfile.1 hbad) nw
    · refine Exists.intro (some ⟨h, 0, none⟩) (And.intro (cell0 hX11) ?_)
      refine Exists.intro (some ⟨g, 0, none⟩) (And.intro (cellB kk11.wi.blk rfl) ?_)
      refine call_ (Len_ok base g v11 t11.1 w11 kk11.wi.wr) ?_
      rintro e wb ⟨rfl, hwb⟩
      obtain rfl := hwb.symm
      refine ⟨_, rfl, ?_⟩
      refine if_p (fun hp => ?_) (fun hp => ?_)
      · replace hp : (32768 : Int) < (t11.1.length : Int) := hp
        exact pr_bad (hfile.2.1 hbad (by omega)) nw
      · replace hp : ¬ (32768 : Int) < (t11.1.length : Int) := hp
        exact hK () _ _ ⟨rfl, rfl, trivial⟩ ⟨rfl, hbad, by omega⟩
  rintro _ wy fry ⟨hwy, hgood, hle⟩
  obtain rfl := hwy.symm
  obtain ⟨he, hbs⟩ := hfile.2.2 hgood hle
  refine Exists.intro (some ⟨h, 0, none⟩) (And.intro (cell0 hX11) ?_)
  refine Exists.intro (some ⟨g, 0, none⟩) (And.intro (cellB kk11.wi.blk rfl) ?_)
  refine call_ (All_ok base g v11 t11.1 w11 kk11.wi.wr (by omega)) ?_
  rintro e wz ⟨u, rfl, ownz, nz⟩
  refine ⟨_, rfl, ?_⟩
  obtain ⟨Az, cz, rfl, h5, h6, rowz, _⟩ := own_slice ownz
  rw [← hbs] at rowz h5
  exact ⟨Az, cz, by rw [he, hbs]; rfl, rowz, h5, h6, nw.trans nz⟩

theorem Check_ok (cs0 : List Value) (c : Cls) (S : Nat → Prop) (w : World) (hx : clsR w S cs0 c) (hf : fCls c) (hk : Kt w) (hG : 0 < w.heap.size) (hm : cCls c ≤ 500000000) :
    Calls Tryd.prog 16 #[.agg cs0.toArray] w fun e w' => e = .returned (zi (errOf c)) ∧ New w w' := by
  have hx0 := hx
  obtain ⟨_, _, _, rfl, lp, lf, lm⟩ := hx
  obtain ⟨A, q, rfl, _⟩ := lp.get entOk (by decide)
  obtain ⟨Af, cf, rfl, _⟩ := lf.get fldOk (by decide)
  obtain ⟨Am, cm, rfl, _⟩ := lm.get mthOk (by decide)
  refine enter ok Tryd.func16 rfl rfl rfl ?_
  refine seq_cut (σ := Unit) (fun _ => [(1, .pointer (some ⟨w.heap.size, 0, none⟩))]) (fun _ w' => New w w' ∧ w'.heap[w.heap.size]? = some (.cells #[.slice A c.pool.length q, strV c.name, strV c.super, .slice Af c.fields.length cf, .slice Am c.methods.length cm] 26 (0, 0))) ?_ ?_
  rotate_left
  · intro K hK
    exact hK () _ _ ⟨rfl, trivial⟩ ⟨New.alloc w _, heap_alloc_new w (.cells #[.slice A c.pool.length q, strV c.name, strV c.super, .slice Af c.fields.length cf, .slice Am c.methods.length cm] 26)⟩
  rintro _ wa fra ⟨na, hMa⟩
  have hs := na.size
  refine loadN_row (vs := [.slice A c.pool.length q, strV c.name, strV c.super, .slice Af c.fields.length cf, .slice Am c.methods.length cm]) (rowB hMa) rfl ?_
  refine call_ (Print_ok [.slice A c.pool.length q, strV c.name, strV c.super, .slice Af c.fields.length cf, .slice Am c.methods.length cm] c S wa (clsOk.mod hx0 (na.mod.mono fun _ _ e => False.elim e)) hf (fun k h0 h5 => na.cell (hk k h0 h5)) (by omega) hm) ?_
  rintro e w1 ⟨A2, q2, rfl, _, _, _, n1⟩
  refine ⟨_, rfl, ?_⟩
  exact ⟨rfl, na.trans n1⟩

end Go.Proofs.YtdcaafldnbcdkaaDoor.Class

/-! ### PReadP -/
namespace Go.Proofs.YtdcaafldnbcdkaaDoor.Pool
open Go Go.Proofs.YtdcaafldnbcdkaaDoor Go.Proofs.YtdcaafldnbcdkaaDoor.Eng Go.Proofs Go.Proofs.YtdcaafldnbcdkaaDoor.Word
set_option maxRecDepth 10000

theorem loopR_stop {bs : List UInt8} {n : Int} {f : Nat} {acc : List Ent} {s : Nat × Int} (h : ¬ ((acc.length : Int) < n ∧ s.2 = 0)) : loopR bs n f acc s = (acc, s) := by
  cases f with
  | zero => rfl
  | succ f => unfold loopR; rw [if_neg h]
theorem loopR_step {bs : List UInt8} {n : Int} {f : Nat} {acc : List Ent} {s : Nat × Int} (h : (acc.length : Int) < n ∧ s.2 = 0) : loopR bs n (f + 1) acc s = loopR bs n f (acc ++ (entR bs s).1 :: tailOf (entR bs s).1) (entR bs s).2 := by
  rw [loopR, if_pos h]
def ReadOk (w : World) (g : Nat) (A : Option Addr) (c : Nat) (bs : List UInt8) (i : Nat) (e : Ending) (w' : World) : Prop :=
  ∃ v l j er, readR bs i = (l, j, er) ∧ e = .returned (.tuple #[v, .int .i64 er]) ∧ w'.ownsRow w.heap.size 42 5 v l.length (l.map entC).flatten ∧ (∀ x ∈ l, EntOk x) ∧ Rd w' g A c bs j ∧ Mod (fun b => b = g) w w'
theorem Read_ok (g : Nat) (A : Option Addr) (c : Nat) (bs : List UInt8) (i : Nat) (w : World) (h : Rd w g A c bs i) (hm : bs.length ≤ 140737488355328) :
    Calls Tryd.prog 59 #[.pointer (some ⟨g, 0, none⟩)] w (ReadOk w g A c bs i) := by
  refine enter ok Tryd.func59 rfl rfl rfl ?_
  have n0 := New.alloc w (.cells #[.pointer (some ⟨g, 0, none⟩), .int .i64 0] 142)
  have hb0 := heap_alloc_new w (.cells #[.pointer (some ⟨g, 0, none⟩), .int .i64 0] 142)
  have sz0 : (w.alloc (.cells #[.pointer (some ⟨g, 0, none⟩), .int .i64 0] 142)).heap.size = w.heap.size + 1 := by simp
  have hlow := rd_low h
  have hg := h.lt
  have p0 : Pr (w.alloc (.cells #[.pointer (some ⟨g, 0, none⟩), .int .i64 0] 142)) w.heap.size g A c bs (i, 0) := ⟨hb0, h.new n0, by omega, fun a ha hn => by have := hlow a ha hn; omega⟩
  have fail : ∀ (s : Nat × Int) (er : Int) w', readR bs i = ([], s.1, er) → Pr w' w.heap.size g A c bs s → Mod (fun b => b = g) w w' → ReadOk w g A c bs i (.returned (.tuple #[.slice none 0 0, .int .i64 er])) w' := fun s er w' hr p m =>
    ⟨_, [], s.1, er, hr, rfl, ⟨rfl, .inl ⟨rfl, rfl⟩⟩, (fun _ h => by cases h), p.rd, m⟩
  refine call_ (number_ok w.heap.size g A c bs (i, 0) 2 false (w.alloc (.cells #[.pointer (some ⟨g, 0, none⟩), .int .i64 0] 142)) p0) ?_
  rintro e w1 ⟨rfl, p1, m1⟩
  refine ⟨_, rfl, ?_⟩
  have k1 : Mod (fun b => b = g) w w1 := Mod.trans n0.mod m1 fun b hb e => by rcases e with e | e <;> omega
  have s1 := m1.size
  have hR : readR bs i = if (numR bs false 2 (i, 0)).2.2 ≠ 0 then ([], (numR bs false 2 (i, 0)).2)
    else if (numR bs false 2 (i, 0)).1 < 1 ∨ 1024 < (numR bs false 2 (i, 0)).1 then ([], (numR bs false 2 (i, 0)).2.1, 70)
    else readEnd (numR bs false 2 (i, 0)).1 (loopR bs (numR bs false 2 (i, 0)).1 (numR bs false 2 (i, 0)).1.toNat [e0] (numR bs false 2 (i, 0)).2) := rfl
  generalize numR bs false 2 (i, 0) = q at hR p1
  obtain ⟨n, s⟩ := q
  simp only at hR p1
  refine Exists.intro s.2 (And.intro (cellB p1.blk rfl) ?_)
  refine if_n (fun hne => ?_) (fun h0 => ?_)
  · rw [if_pos (show s.2 ≠ 0 from hne)] at hR
    refine draw_ (w := w1) ok (.q 0 (.q 1 (.q 2 (.q 3 (.q 4 (.q 5 .done)))))) [5] (New w1) (by kernel_rfl) (by kernel_rfl) (by kernel_rfl) (by kernel_rfl) (by kernel_rfl) (New.drew _) ?_
    refine Exists.intro s.2 (And.intro (fun w'' hw => cellB (hw.blk p1.blk) rfl) ?_)
    exact fail s s.2 _ hR (p1.new (New.drew _)) (k1.trans (New.drew _) (fun _ _ e => False.elim e))
  rw [if_neg (show ¬ s.2 ≠ 0 from fun hc => hc h0)] at hR
  refine if_p (fun hlt => ?_) (fun hge => ?_)
  · rw [if_pos (.inl hlt)] at hR
    exact fail s 70 _ hR p1 k1
  refine if_p (fun hgt => ?_) (fun hle => ?_)
  · rw [if_pos (.inr hgt)] at hR
    exact fail s 70 _ hR p1 k1
  replace hge : ¬ n < 1 := hge
  replace hle : ¬ 1024 < n := hle
  rw [if_neg (by omega)] at hR
  have n2 := New.alloc w1 (.cells (entC e0).toArray 42)
  have own2 := own_lit w1 (entC e0) 42 5 1 (w.heap.size + 1) (by omega) rfl (by omega)
  refine den_loop (σ := (Option Addr × Nat) × List Ent × Nat × Int) (fun t => [(4, .pointer (some ⟨w.heap.size, 0, none⟩)), (5, .int .i64 n), (6, .slice t.1.1 t.2.1.length t.1.2)])
    (fun m t wl => loopR bs n m t.2.1 t.2.2 = loopR bs n n.toNat [e0] s ∧ n ≤ (t.2.1.length : Int) + m ∧ t.2.1.length ≤ 1026 ∧ Pr wl w.heap.size g A c bs t.2.2 ∧ Mod (fun b => b = g) w wl ∧ w.heap.size + 1 ≤ wl.heap.size ∧
      wl.ownsRow (w.heap.size + 1) 42 5 (.slice t.1.1 t.2.1.length t.1.2) t.2.1.length (t.2.1.map entC).flatten ∧ ∀ x ∈ t.2.1, EntOk x) n.toNat ((some ⟨w1.heap.size, 0, none⟩, 1), [e0], s)
    ⟨rfl, rfl, rfl, trivial⟩ ⟨rfl, by simp only; omega, by simp, p1.new n2, k1.trans n2 (fun _ _ e => False.elim e), Nat.le_trans (by omega) n2.size, own2, fun x hx => by rw [List.mem_singleton.1 hx]; exact ok_e0⟩ ?_
  rintro m ⟨⟨Al, cl⟩, acc, s'⟩ wl fr0 ⟨hloop, hfuel, hacc, pl, kl, hsl, own, oks⟩
  dsimp only at hloop hfuel hacc pl own oks
  have hown := fun b (e : (Value.slice Al acc.length cl).ownBlock = some b) => own.lt b e
  have herr : ∀ (hne : s'.2 ≠ 0), ReadOk w g A c bs i (.returned (.tuple #[.slice none 0 0, .int .i64 s'.2])) wl.drew := fun hne => by
    rw [← hloop, loopR_stop (fun h => hne h.2)] at hR
    unfold readEnd at hR
    rw [if_pos (show (acc, s').2.2 ≠ 0 from hne)] at hR
    exact fail s' s'.2 _ hR (pl.new (New.drew _)) (kl.trans (New.drew _) (fun _ _ e => False.elim e))
  refine if_p (fun hlt => ?_) (fun hge => ?_)
  · replace hlt : (acc.length : Int) < n := hlt
    refine Exists.intro s'.2 (And.intro (cellB pl.blk rfl) ?_)
    refine if_p (fun hz => ?_) (fun hz => ?_)
    · replace hz : s'.2 = 0 := hz
      cases m with
      | zero => omega
      | succ m =>
      rw [loopR_step ⟨hlt, hz⟩] at hloop
      refine call_ (entry_ok w.heap.size g A c bs s' wl pl hm) ?_
      rintro e w4 ⟨rfl, p4, m4⟩
      refine ⟨_, rfl, ?_⟩
      have hx := (entR_ok bs s' pl.rd.at_ (by omega)).1
      generalize entR bs s' = q at hloop p4 hx
      obtain ⟨x, s4⟩ := q
      dsimp only at hloop p4 hx
      have k4 : Mod (fun b => b = g) w w4 := Mod.trans kl m4 fun b hb e => by rcases e with e | e <;> omega
      have s4z := m4.size
      have own4 := own_mod m4 own (fun b hb e => by have := hown b hb; rcases e with e | e <;> omega)
      refine And.intro rfl ?_
      refine storeNew (vs := entC x) (arr := entZ) rfl (entC_one _) ?_
      intro w5 hb5 n5 s5
      have k5 : Mod (fun b => b = g) w w5 := k4.trans n5 (fun _ _ e => False.elim e)
      refine loadN_row (vs := entC x) (rowB hb5) rfl ?_
      have n6 := New.alloc w5 (.cells (entC x).toArray 42)
      have row6 : Row (w5.alloc (.cells (entC x).toArray 42)) (some ⟨w5.heap.size, 0, none⟩) (entC x) := row_alloc w5 (entC x) _ _
      have n56 := n5.trans n6
      have s56 := n56.size
      refine append_ ok rfl rfl rfl rfl (own_new n56 own4) rfl rfl row6 rfl (entC_one x) (by decide) rfl (by show (acc.length + 1) * 48 ≤ _; omega) (by omega) (Nat.le_trans (Nat.le_trans hsl s4z) s56) ?_
      intro A7 c7 w7 own7 mod7
      rw [← ents_snoc] at own7
      have m47 := Mod.trans n56.mod mod7 (S := fun b => some b = (Value.slice Al acc.length cl).ownBlock) fun _ _ h => h
      have hg' : ¬ some g = (Value.slice Al acc.length cl).ownBlock := fun e => by have := hown g e.symm; omega
      have hh' : ¬ some w.heap.size = (Value.slice Al acc.length cl).ownBlock := fun e => by have := hown _ e.symm; omega
      have ha' : ∀ a, A = some a → bs ≠ [] → ¬ some a.block = (Value.slice Al acc.length cl).ownBlock := fun a ha hn e => by have := hlow a ha hn; have := hown _ e.symm; omega
      have p7 := p4.modN m47 hh' hg' ha'
      have k7 : Mod (fun b => b = g) w w7 := Mod.trans k4 m47 fun b hb e => by have := hown b e.symm; omega
      have hb7 := mod7.blk (n6.blk hb5) (fun e => by have := hown _ e.symm; omega)
      have s7 := m47.size
      refine Exists.intro x.tag (And.intro (cellB hb7 rfl) ?_)
      refine if_p (fun h5 => ?_) (fun h5 => ?_)
      · replace h5 : x.tag = 5 := h5
        have n8 := New.alloc w7 (.cells (entC e0).toArray 42)
        have row8 : Row (w7.alloc (.cells (entC e0).toArray 42)) (some ⟨w7.heap.size, 0, none⟩) (entC e0) := row_alloc w7 (entC e0) _ _
        have own7' := fun b (e : (Value.slice A7 (acc.length + 1) c7).ownBlock = some b) => own7.lt b e
        refine append_ ok rfl rfl rfl rfl (own_new n8 own7) rfl rfl row8 rfl (entC_one e0) (by decide) rfl (by show (acc.length + 1 + 1) * 48 ≤ _; omega) (by omega) (Nat.le_trans (Nat.le_trans (Nat.le_trans hsl s4z) s7) n8.size) ?_
        intro A9 c9 w9 own9 mod9
        have e10 : ((acc ++ [x]).map entC).flatten ++ entC e0 = ((acc ++ [x, e0]).map entC).flatten := by rw [← ents_snoc, List.append_assoc]; rfl
        rw [e10] at own9
        have m79 := Mod.trans n8.mod mod9 (S := fun b => some b = (Value.slice A7 (acc.length + 1) c7).ownBlock) fun _ _ h => h
        have et : tailOf x = [e0] := by unfold tailOf; rw [if_pos h5]
        rw [et] at hloop
        have hl : (acc ++ [x, e0]).length = acc.length + 1 + 1 := by simp
        have s9 := m79.size
        refine ⟨m, ((A9, c9), acc ++ [x, e0], s4), by omega, ⟨rfl, rfl, by rw [hl]; rfl, trivial⟩, hloop, by dsimp only; omega, by dsimp only; omega, ?_, ?_, by omega, ?_, ?_⟩
        · exact p7.modN m79 (fun e => by have := own7' _ e.symm; omega) (fun e => by have := own7' _ e.symm; omega) (fun a ha hn e => by have := hlow a ha hn; have := own7' _ e.symm; omega)
        · exact Mod.trans k7 m79 fun b hb e => by have := own7' b e.symm; omega
        · dsimp only
          rw [hl]
          exact own9
        · intro y hy
          rcases List.mem_append.1 hy with hy | hy
          · exact oks y hy
          · rcases List.mem_cons.1 hy with hy | hy
            · rw [hy]; exact hx
            · rw [List.mem_singleton.1 hy]; exact ok_e0
      · replace h5 : ¬ x.tag = 5 := h5
        have et : tailOf x = [] := by unfold tailOf; rw [if_neg h5]
        rw [et] at hloop
        have hl : (acc ++ [x]).length = acc.length + 1 := by simp
        refine ⟨m, ((A7, c7), acc ++ [x], s4), by omega, ⟨rfl, rfl, by rw [hl]; rfl, trivial⟩, hloop, by dsimp only; omega, by dsimp only; omega, p7, k7, by omega, ?_, ?_⟩
        · dsimp only
          rw [hl]
          exact own7
        · intro y hy
          rcases List.mem_append.1 hy with hy | hy
          · exact oks y hy
          · rw [List.mem_singleton.1 hy]; exact hx
    · replace hz : ¬ s'.2 = 0 := hz
      refine Exists.intro s'.2 (And.intro (cellB pl.blk rfl) ?_)
      refine if_n (fun _ => ?_) (fun h => absurd h hz)
      refine draw_ (w := wl) ok (.q 0 (.q 1 (.q 2 (.q 3 (.q 4 (.q 5 .done)))))) [5] (New wl) (by kernel_rfl) (by kernel_rfl) (by kernel_rfl) (by kernel_rfl) (by kernel_rfl) (New.drew _) ?_
      refine Exists.intro s'.2 (And.intro (fun w'' hw => cellB (hw.blk pl.blk) rfl) ?_)
      exact herr hz
  · replace hge : ¬ (acc.length : Int) < n := hge
    refine Exists.intro s'.2 (And.intro (cellB pl.blk rfl) ?_)
    refine if_n (fun hz => ?_) (fun hz => ?_)
    · replace hz : ¬ s'.2 = 0 := hz
      refine draw_ (w := wl) ok (.q 0 (.q 1 (.q 2 (.q 3 (.q 4 (.q 5 .done)))))) [5] (New wl) (by kernel_rfl) (by kernel_rfl) (by kernel_rfl) (by kernel_rfl) (by kernel_rfl) (New.drew _) ?_
      refine Exists.intro s'.2 (And.intro (fun w'' hw => cellB (hw.blk pl.blk) rfl) ?_)
      exact herr hz
    replace hz : s'.2 = 0 := hz
    rw [← hloop, loopR_stop (fun h => hge h.1)] at hR
    unfold readEnd at hR
    rw [if_neg (show ¬ (acc, s').2.2 ≠ 0 from fun h => h hz)] at hR
    dsimp only at hR
    refine if_p (fun hbig => ?_) (fun hsm => ?_)
    · replace hbig : n < (acc.length : Int) := hbig
      rw [if_pos hbig] at hR
      exact fail s' 70 _ hR pl kl
    replace hsm : ¬ n < (acc.length : Int) := hsm
    rw [if_neg hsm] at hR
    obtain ⟨_, _, hpl⟩ := pl_own own rfl oks
    refine call_ (Check_ok Al acc.length cl acc wl hpl) ?_
    rintro e w5 ⟨rfl, n5⟩
    refine ⟨_, rfl, ?_⟩
    have k5 : Mod (fun b => b = g) w w5 := kl.trans n5 (fun _ _ e => False.elim e)
    rcases chk_cases acc with ⟨hc, ho⟩ | ⟨hc, ho⟩
    · rw [hc]
      rw [ho, if_neg (by decide)] at hR
      exact fail s' 70 _ hR (pl.new n5) k5
    · rw [hc]
      rw [ho, if_pos rfl] at hR
      refine ⟨_, acc, s'.1, 0, by rw [hR, ← hz], rfl, own_low (own_new n5 own) (by omega), oks, (pl.new n5).rd, k5⟩
end Go.Proofs.YtdcaafldnbcdkaaDoor.Pool

/-! ### KParse -/
namespace Go.Proofs.YtdcaafldnbcdkaaDoor.Class
open Go Go.Proofs.YtdcaafldnbcdkaaDoor Go.Proofs.YtdcaafldnbcdkaaDoor.Eng Go.Proofs Go.Proofs.YtdcaafldnbcdkaaDoor.Word Go.Proofs.YtdcaafldnbcdkaaDoor.Fmt
open Go.Proofs.YtdcaafldnbcdkaaDoor.Pool (rd_modN rd_low RS Ent at_ poolF strV entC entV EntOk Pl OkPool both own_low tagAt)
set_option maxRecDepth 10000

theorem Equal_ok (A1 : Option Addr) (c1 : Nat) (l1 : List UInt8) (A2 : Option Addr) (c2 : Nat) (l2 : List UInt8) (w : World) (h1 : Row w A1 (bvs l1)) (h2 : Row w A2 (bvs l2)) :
    Calls Tryd.prog 68 #[.slice A1 l1.length c1, .slice A2 l2.length c2] w fun e w' => e = .returned (.bool (decide (l1 = l2))) ∧ w' = w := by
  refine enter ok Tryd.func68 rfl rfl rfl ?_
  refine Exists.intro l1 (And.intro rfl (And.intro h1 ?_))
  refine Exists.intro l2 (And.intro rfl (And.intro h2 ?_))
  have e : decide ((⟨l1.toArray⟩ : ByteArray) = ⟨l2.toArray⟩) = decide (l1 = l2) := by
    by_cases h : l1 = l2
    · rw [decide_eq_true h, h]
      exact decide_eq_true rfl
    · rw [decide_eq_false h]
      refine decide_eq_false fun k => h ?_
      have := congrArg (fun b : ByteArray => b.data.toList) k
      simpa using this
  rw [← e]
  exact ⟨rfl, rfl⟩
def zeroC : List Value := [.slice none 0 0, .string ⟨#[]⟩, .string ⟨#[]⟩, .slice none 0 0, .slice none 0 0]
theorem one_zero : ∀ u ∈ zeroC, u.oneCell' = true := fun u hu => by
  simp only [zeroC, List.mem_cons, List.not_mem_nil, or_false] at hu
  rcases hu with rfl | rfl | rfl | rfl | rfl <;> rfl
theorem one_cls (A1 A2 A3 : Option Addr) (n1 c1 n2 c2 n3 c3 : Nat) (z1 z2 : List UInt8) : ∀ u ∈ [Value.slice A1 n1 c1, strV z1, strV z2, Value.slice A2 n2 c2, Value.slice A3 n3 c3], u.oneCell' = true := fun u hu => by
  simp only [List.mem_cons, List.not_mem_nil, or_false] at hu
  rcases hu with rfl | rfl | rfl | rfl | rfl <;> rfl
/-- What Parse answers. -/
def PRes (w : World) (bs : List UInt8) (e : Ending) (w' : World) : Prop := New w w' ∧ ((∃ cs x, e = .returned (.tuple #[.agg (List.toArray cs), zi 0]) ∧ clsR w' (fun b => b < w.heap.size) cs x ∧ fCls x ∧ cCls x ≤ 500000000 ∧ Is bs x) ∨
  ((∀ x, ¬ Is bs x) ∧ e = .returned (.tuple #[.agg (List.toArray zeroC), zi (if 32768 < bs.length then 3 else 80)])))
theorem pres_bad {w w1 w2 : World} {V : Nat} {bs : List UInt8} {e : Ending} (n : New w w1) (m : Mod (fun b => b = V) w1 w2) (hV : w.heap.size ≤ V) (h : ∀ x, ¬ Is bs x) (he : e = .returned (.tuple #[.agg (List.toArray zeroC), zi (if 32768 < bs.length then 3 else 80)])) : PRes w bs e w2 := ⟨n.st m hV, .inr ⟨h, he⟩⟩
theorem parse_hdr {bs : List UInt8} {x : Cls} (h : Is bs x) : (getB bs 0 8).2.2 = 8 ∧ ∃ j, Pool.readR bs 8 = (x.pool, j, 0) ∧ j ≤ bs.length ∧ bs.drop j = (restT x.pool).enc (33, x.name, x.super, 0, x.fields, x.methods, 0) := by
  obtain ⟨ho, he, _⟩ := is_of h
  obtain ⟨_, _, _, _, hp, _⟩ := ho
  have e1 : bs = (enc 4 3405691582 ++ (enc 2 0 ++ enc 2 52)) ++ (poolF.enc x.pool ++ (restT x.pool).enc (33, x.name, x.super, 0, x.fields, x.methods, 0)) := by
    rw [he, List.append_assoc, List.append_assoc]
    rfl
  have hl : (enc 4 3405691582 ++ (enc 2 0 ++ enc 2 52)).length = 8 := by
    rw [List.length_append, List.length_append, enc_length, enc_length, enc_length]
  have e2 : bs.drop 8 = poolF.enc x.pool ++ (restT x.pool).enc (33, x.name, x.super, 0, x.fields, x.methods, 0) := by
    rw [e1, List.drop_left' hl]
  have h8 : 8 ≤ bs.length := by
    have := congrArg List.length e1
    rw [List.length_append, hl] at this
    omega
  refine ⟨?_, ?_⟩
  · unfold getB
    rw [if_neg (by decide), if_neg (by omega)]
    rfl
  · have hf := poolF.fwd x.pool ((restT x.pool).enc (33, x.name, x.super, 0, x.fields, x.methods, 0)) hp
    rw [← e2] at hf
    rcases Pool.read_says bs 8 h8 with ⟨v, j, a1, a2, _, a4⟩ | ⟨a1, _⟩
    · change Pool.poolP _ = _ at hf
      rw [hf] at a1
      have a3 := Prod.mk.inj (Option.some.inj a1)
      exact ⟨j, by rw [a2, a3.1], a4, a3.2.symm⟩
    · change Pool.poolP _ = _ at hf
      rw [hf] at a1
      cases a1
theorem read_pool {bs : List UInt8} {i j : Nat} {l : List Ent} (hi : i ≤ bs.length) (h : Pool.readR bs i = (l, j, 0)) : OkPool l ∧ j ≤ bs.length := by
  have hs := Pool.read_says bs i hi
  rw [h] at hs
  rcases hs with ⟨v, k, e1, e2, _, e4⟩ | ⟨_, e2, _⟩
  · cases e2
    obtain ⟨⟨o1, _⟩, _⟩ := poolF.bwd _ l _ e1
    exact ⟨(Pool.okB_iff l).1 o1, e4⟩
  · exact absurd rfl e2
theorem parse_math {bs : List UInt8} {x : Cls} {l : List Ent} {j : Nat} {k1 k4 : Int} {nm sp : List UInt8} {fs : List Fld} {ms : List Mth} {s1 s2 s3 s4 s5 s6 : RSt} (h : Is bs x) (hj : Pool.readR bs (getB bs 0 8).2.2 = (l, j, 0))
    (r1 : Rd n2 bs (j, false) k1 s1) (r2 : Rd (clsT l) bs s1 nm s2) (r3 : Rd (supT l) bs s2 sp s3) (r4 : Rd n2 bs s3 k4 s4) (r5 : Rd (fldsT l) bs s4 fs s5) (r6 : Rd (mthsT l) bs s5 ms s6) : x = ⟨l, nm, sp, fs, ms⟩ ∧ s6.2 = false := by
  obtain ⟨h1, j', h2, h3, h4⟩ := parse_hdr h
  rw [h1, h2] at hj
  cases hj
  obtain ⟨ho, _, _⟩ := is_of h
  obtain ⟨_, _, _, _, _, o1, o2, o3, o4, o5, o6, _⟩ := ho
  have e : bs.drop j = n2.enc 33 ++ ((clsT x.pool).enc x.name ++ ((supT x.pool).enc x.super ++ (n2.enc 0 ++ ((fldsT x.pool).enc x.fields ++ ((mthsT x.pool).enc x.methods ++ n2.enc 0))))) := h4
  obtain ⟨_, b1, e⟩ := r1.2.2 rfl _ _ o1 e
  obtain ⟨q2, b2, e⟩ := r2.2.2 b1 _ _ o2 e
  obtain ⟨q3, b3, e⟩ := r3.2.2 b2 _ _ o3 e
  obtain ⟨_, b4, e⟩ := r4.2.2 b3 _ _ o4 e
  obtain ⟨q5, b5, e⟩ := r5.2.2 b4 _ _ o5 e
  obtain ⟨q6, b6, e⟩ := r6.2.2 b5 _ _ o6 e
  exact ⟨by cases x; simp_all, b6⟩
theorem ents_rep {w : World} {b0 : Nat} {S : Nat → Prop} {v : Value} {l : List Ent} (own : w.ownsRow b0 42 5 v l.length (l.map entC).flatten) (hl : l.length ≤ 140737488355328) (hS : ∀ b, b0 ≤ b → ¬ S b) : LRep entR w S v l := by
  obtain ⟨A, c, rfl, h5, h6, row, ho⟩ := own_slice own
  refine ⟨A, c, l.map fun x => (entC x, x), rfl, by rw [List.map_map]; exact List.map_id _, h5, h6, hl, ?_, fun a ha _ => ⟨(ho a ha).2.1, hS _ (ho a ha).1⟩, fun t ht => ?_⟩
  · show Row w A (cellsOf _)
    have : cellsOf (l.map fun x => (entC x, x)) = (l.map entC).flatten := by
      unfold cellsOf
      rw [List.map_map]
      rfl
    rw [this]
    exact row
  · obtain ⟨y, _, rfl⟩ := List.mem_map.1 ht
    rfl

theorem Parse_ok (A : Option Addr) (c : Nat) (bs : List UInt8) (w : World) (hr : Row w A (bvs bs)) (hc : bs.length ≤ c) (ht : c ≤ 9223372036854775807) (hbig : bs.length ≤ 140737488355328) (hk : Kt w) (hG : 0 < w.heap.size) :
    Calls Tryd.prog 17 #[.slice A bs.length c] w (PRes w bs) := by
  refine enter ok Tryd.func17 rfl rfl rfl ?_
  obtain ⟨V, hV⟩ : ∃ V, V = w.heap.size := ⟨_, rfl⟩
  refine seq_cut (σ := Unit) (fun _ => [(0, .slice A bs.length c), (2, .pointer (some ⟨V, 0, none⟩)), (3, zi 0)]) (fun _ w' => New w w' ∧ w'.heap.size = w.heap.size + 1 ∧ w'.heap[V]? = some (.cells #[.slice none 0 0, .string ⟨#[]⟩, .string ⟨#[]⟩, .slice none 0 0, .slice none 0 0] 26 (0, 0))) ?_ ?_
  rotate_left
  · intro K hK
    rw [hV] at hK
    exact hK () _ _ ⟨rfl, rfl, rfl, trivial⟩ ⟨New.alloc w _, by simp, heap_alloc_new w (.cells #[.slice none 0 0, .string ⟨#[]⟩, .string ⟨#[]⟩, .slice none 0 0, .slice none 0 0] 26)⟩
  rintro _ w0 fr0 ⟨n0, hz0, hV0⟩
  refine seq_cut (σ := Unit) (fun _ => [(0, .slice A bs.length c), (2, .pointer (some ⟨V, 0, none⟩)), (3, zi 0)]) (fun _ w' => w' = w0 ∧ bs.length ≤ 32768) ?_ ?_
  rotate_left
  · intro K hK
    refine if_p (fun hl => ?_) (fun hl => ?_)
    · replace hl : (32768 : Int) < (bs.length : Int) := hl
      refine And.intro rfl ?_
      refine storeN_all (vs := zeroC) hV0 rfl one_zero ?_
      intro wz hz mz sz
      refine loadN_row (vs := zeroC) (rowB hz) rfl ?_
      exact pres_bad (n0) mz (by omega) (fun x h => by have := (is_of h).2.2; omega) (by rw [if_pos (by omega)]; rfl)
    · replace hl : ¬ (32768 : Int) < (bs.length : Int) := hl
      exact hK () _ _ ⟨rfl, rfl, rfl, trivial⟩ ⟨rfl, by omega⟩
  rintro _ wy fry ⟨hwy, hlen⟩
  obtain rfl := hwy.symm
  -- the reader
  refine seq_cut (σ := Nat × Nat × Nat) (fun t => [(0, .slice A bs.length c), (2, .pointer (some ⟨V, 0, none⟩)), (3, zi 0), (4, .pointer (some ⟨t.2.2, 0, none⟩))]) (fun t w' => New w0 w' ∧ w'.heap[t.2.2]? = some (.cells #[.pointer (some ⟨t.2.1, 0, none⟩)] 104 (0, 0)) ∧ w'.heap[t.2.1]? = some (.cells #[.pointer (some ⟨t.1, 0, none⟩), .slice none 0 0, .bool false] 108 (0, 0)) ∧ Word.Rd w' t.1 A c bs 0 ∧ w0.heap.size ≤ t.1 ∧ t.1 < t.2.1 ∧ t.2.1 < t.2.2) ?_ ?_
  rotate_left
  · intro K hK
    refine call_ (Read_okN A c bs w0 (hr.new n0) hc ht) ?_
    rintro e w1 ⟨rfl, rd1, n1, s1⟩
    refine ⟨_, rfl, ?_⟩
    have na := New.alloc w1 (.cells #[.pointer (some ⟨w0.heap.size, 0, none⟩), .slice none 0 0, .bool false] 108)
    have ha := heap_alloc_new w1 (.cells #[.pointer (some ⟨w0.heap.size, 0, none⟩), .slice none 0 0, .bool false] 108)
    have sa : (w1.alloc (.cells #[.pointer (some ⟨w0.heap.size, 0, none⟩), .slice none 0 0, .bool false] 108)).heap.size = w1.heap.size + 1 := by simp
    have nb := New.alloc (w1.alloc (.cells #[.pointer (some ⟨w0.heap.size, 0, none⟩), .slice none 0 0, .bool false] 108)) (.cells #[.pointer none] 104)
    have hb := heap_alloc_new (w1.alloc (.cells #[.pointer (some ⟨w0.heap.size, 0, none⟩), .slice none 0 0, .bool false] 108)) (.cells #[.pointer none] 104)
    refine And.intro ⟨_, cell0 hb⟩ (And.intro (fz0 hb) (force_ ?_))
    refine st0 hb (show (0 : Nat) < 1 by decide) ?_
    intro w5 hX5 m5 s5
    have nc := New.made m5
    exact hK (w0.heap.size, w1.heap.size, (w1.alloc (.cells #[.pointer (some ⟨w0.heap.size, 0, none⟩), .slice none 0 0, .bool false] 108)).heap.size) _ _ ⟨rfl, rfl, rfl, rfl, trivial⟩ ⟨(n1.trans na).trans nc, hX5, nc.blk ha, (rd1.new na).new nc, Nat.le_refl _, by dsimp only; omega, by dsimp only; omega⟩
  rintro ⟨g, h, X⟩ w1 fr1 ⟨n1, hX1, hh1, rd1, hg0, hgh, hhX⟩
  dsimp only at hX1 hh1 rd1 hg0 hgh hhX
  have hV1 := n1.blk hV0
  -- the header
  refine seq_cut (σ := Unit) (fun _ => [(0, .slice A bs.length c), (2, .pointer (some ⟨V, 0, none⟩)), (3, zi 0), (4, .pointer (some ⟨X, 0, none⟩))]) (fun _ w' => Word.Rd w' g A c bs (getB bs 0 8).2.2 ∧ Mod (fun b => b = g) w1 w') ?_ ?_
  rotate_left
  · intro K hK
    refine Exists.intro (some ⟨h, 0, none⟩) (And.intro (cell0 hX1) ?_)
    refine Exists.intro (some ⟨g, 0, none⟩) (And.intro (cellB hh1 rfl) ?_)
    refine call_ (RBytes_ok g A c bs 0 8 w1 rd1 hbig) ?_
    rintro e wa ⟨v, rfl, _, rda, ma⟩
    refine ⟨_, rfl, ?_⟩
    exact hK () _ _ ⟨rfl, rfl, rfl, rfl, trivial⟩ ⟨rda, ma⟩
  rintro _ w2 fr2 ⟨rd2, m2⟩
  have hX2 := m2.blk hX1 (show ¬ X = g by omega)
  have hh2 := m2.blk hh1 (show ¬ h = g by omega)
  have hV2 := m2.blk hV1 (show ¬ V = g by omega)
  have hz2 := m2.size
  have hXl : X < w1.heap.size := (Array.getElem?_eq_some_iff.1 hX1).1
  -- the pool
  refine seq_cut (σ := (Option Addr × Nat) × List Ent × Nat × Int) (fun t => [(0, .slice A bs.length c), (2, .pointer (some ⟨V, 0, none⟩)), (3, zi 0), (4, .pointer (some ⟨X, 0, none⟩)), (5, .slice t.1.1 t.2.1.length t.1.2), (6, zi t.2.2.2)]) (fun t w' => Pool.readR bs (getB bs 0 8).2.2 = t.2 ∧ w'.ownsRow w2.heap.size 42 5 (.slice t.1.1 t.2.1.length t.1.2) t.2.1.length (t.2.1.map entC).flatten ∧ (∀ x ∈ t.2.1, EntOk x) ∧ Word.Rd w' g A c bs t.2.2.1 ∧ Mod (fun b => b = g) w2 w') ?_ ?_
  rotate_left
  · intro K hK
    refine Exists.intro (some ⟨h, 0, none⟩) (And.intro (cell0 hX2) ?_)
    refine Exists.intro (some ⟨g, 0, none⟩) (And.intro (cellB hh2 rfl) ?_)
    refine call_ (Pool.Read_ok g A c bs (getB bs 0 8).2.2 w2 rd2 hbig) ?_
    rintro e wa ⟨v7, l7, j7, er7, hr7, rfl, own7, oks7, rd7, mod7⟩
    obtain ⟨A7, c7, rfl, _⟩ := own_slice own7
    refine ⟨_, rfl, ?_⟩
    exact hK ((A7, c7), l7, j7, er7) _ _ ⟨rfl, rfl, rfl, rfl, rfl, rfl, trivial⟩ ⟨hr7, own7, oks7, rd7, mod7⟩
  rintro ⟨⟨A7, c7⟩, l, j, er⟩ w3 fr3 ⟨hr3, own3, oks3, rd3, m3⟩
  dsimp only at hr3 own3 oks3 rd3
  have hX3 := m3.blk hX2 (show ¬ X = g by omega)
  have hh3 := m3.blk hh2 (show ¬ h = g by omega)
  have hV3 := m3.blk hV2 (show ¬ V = g by omega)
  have hz3 := m3.size
  have n3 : New w w3 := Mod.trans (Mod.trans (n0.trans n1) m2 fun b hb e => by omega) m3 fun b hb e => by omega
  refine seq_cut (σ := Unit) (fun _ => [(0, .slice A bs.length c), (2, .pointer (some ⟨V, 0, none⟩)), (3, zi 0), (4, .pointer (some ⟨X, 0, none⟩)), (5, .slice A7 l.length c7)]) (fun _ w' => w' = w3 ∧ er = 0) ?_ ?_
  rotate_left
  · intro K hK
    refine if_n (fun hne => ?_) (fun heq => ?_)
    · refine And.intro rfl ?_
      refine storeN_all (vs := zeroC) hV3 rfl one_zero ?_
      intro wz hz mz sz
      refine loadN_row (vs := zeroC) (rowB hz) rfl ?_
      exact pres_bad (n3) mz (by omega) (fun x h => by obtain ⟨e1, j1, e2, _⟩ := parse_hdr h; rw [e1, e2] at hr3; cases hr3; exact hne rfl) (by rw [if_neg (by omega)]; rfl)
    · exact hK () _ _ ⟨rfl, rfl, rfl, rfl, rfl, trivial⟩ ⟨rfl, heq⟩
  rintro _ wy3 fry3 ⟨hwy, her⟩
  obtain rfl := hwy.symm
  subst her
  have hi8 : (getB bs 0 8).2.2 ≤ bs.length := rd2.at_
  obtain ⟨hO, hj⟩ := read_pool hi8 hr3
  have hpl : l.length ≤ 1024 := hO.2
  have lp3 : LRep entR w3 (fun b => b < w2.heap.size) (.slice A7 l.length c7) l := ents_rep own3 (by omega) (fun b hb e => by omega)
  obtain ⟨p, hp⟩ : ∃ p : Po, p = ⟨A7, c7, l⟩ := ⟨_, rfl⟩
  have hpd : ∀ a, A7 = some a → l ≠ [] → w2.heap.size ≤ a.block := fun a ha _ => by
    obtain ⟨A', c', e', _, _, _, ho⟩ := own_slice own3
    cases e'
    exact (ho a ha).1
  have hkz : Kt w3 := fun k h0 h5 => n3.cell (hk k h0 h5)
  refine seq_cut (σ := Unit) (fun _ => [(0, .slice A bs.length c), (2, .pointer (some ⟨V, 0, none⟩)), (3, zi 0), (4, .pointer (some ⟨X, 0, none⟩)), (5, .slice A7 l.length c7)]) (fun _ w' => Ir w' h g A c bs p (j, false) ∧ Mod (fun b => b = h) w3 w') ?_ ?_
  rotate_left
  · intro K hK
    refine Exists.intro (some ⟨h, 0, none⟩) (And.intro (cell0 hX3) ?_)
    refine And.intro ⟨_, cellB hh3 rfl⟩ (And.intro (fzB hh3 _) (force_ ?_))
    refine stK hh3 (show (1 : Nat) < 3 by decide) ?_
    intro wb hb mb sb
    have hlow := row_low hr
    have n0z := n0.size
    have n1z := n1.size
    refine hK () _ _ ⟨rfl, rfl, rfl, rfl, rfl, trivial⟩ ⟨⟨by rw [hp]; exact hb, rd_modN rd3 mb (by omega) (fun a ha hn e => by have := hlow a ha hn; omega), by omega, fun a ha hn e => by have := hlow a ha hn; omega, ?_, fun k h0 h5 => mb.cell (hkz k h0 h5) (fun e => ?_), fun b hb => ?_⟩, mb⟩
    · rw [hp]
      obtain ⟨A', c', e', pl', _⟩ := pool_row (lp3.mod entOk (by decide) (mb.mono fun b _ e => by omega)) oks3
      cases e'
      exact pl'
    · have e : 0 = h := e
      omega
    · rcases hb with ⟨a, ha, hn, rfl⟩ | rfl
      · rw [hp] at ha hn
        have := hpd a ha hn
        exact ⟨by omega, by omega⟩
      · exact ⟨by omega, by omega⟩
  rintro _ w4 fr4 ⟨q4, m4⟩
  have hX4 := m4.blk hX3 (show ¬ X = h by omega)
  have hV4 := m4.blk hV3 (show ¬ V = h by omega)
  have hz4 := m4.size
  have lp4 := lp3.mod entOk (by decide) (m4.mono fun b _ e => by omega)
  -- the class
  refine seq_cut (σ := Nat) (fun M => [(0, .slice A bs.length c), (2, .pointer (some ⟨V, 0, none⟩)), (3, zi 0), (4, .pointer (some ⟨X, 0, none⟩)), (7, .pointer (some ⟨M, 0, none⟩))]) (fun M w' => New w4 w' ∧ w4.heap.size ≤ M ∧ w'.heap[M]? = some (.cells #[.slice A7 l.length c7, strV [], strV [], .slice none 0 0, .slice none 0 0] 26 (0, 0))) ?_ ?_
  rotate_left
  · intro K hK
    refine And.intro rfl ?_
    refine storeNew (vs := [.slice A7 l.length c7, strV [], strV [], .slice none 0 0, .slice none 0 0]) (arr := #[.slice none 0 0, .string ⟨#[]⟩, .string ⟨#[]⟩, .slice none 0 0, .slice none 0 0]) rfl (one_cls _ _ _ _ _ _ _ _ _ [] []) ?_
    intro wb hb nb sb
    exact hK w4.heap.size _ _ ⟨rfl, rfl, rfl, rfl, rfl, trivial⟩ ⟨nb, Nat.le_refl _, hb⟩
  rintro M w5 fr5 ⟨n5, hMw, hM5⟩
  have lp5 : LRep entR w5 (fun b => b < w2.heap.size ∨ b = M) (.slice A7 l.length c7) l := LRep.mod entOk (by decide) (LRep.weak entOk lp4 fun b hb e => e.resolve_right (by omega)) (n5.mod.mono fun _ _ e => False.elim e)
  have q5 := q4.new n5
  have hX5 := n5.blk hX4
  have hV5 := n5.blk hV4
  have hz5 := n5.size
  have hVl : V < w3.heap.size := (Array.getElem?_eq_some_iff.1 hV3).1
  have hX0' : ¬ X = h := by omega
  have hXg : ¬ X = g := by omega
  have hXn : ¬ RS h g X := fun e => by rcases e with e | e; exact hXg e; exact hX0' e
  have hVr : ¬ RS h g V := fun e => by
    rcases e with e | e
    · have e : V = g := e; omega
    · have e : V = h := e; omega
  have hMr : ¬ RS h g M := fun e => by
    rcases e with e | e
    · have e : M = g := e; omega
    · have e : M = h := e; omega
  have hM0 : ∀ b, Iin h g A bs p b → b ≠ M := fun b hb e => by have := q4.lt hb; omega
  have hXM : ¬ X = M := by omega
  have hVM : ¬ V = M := by omega
  obtain ⟨s5, hs5⟩ : ∃ s5 : RSt, s5 = (j, false) := ⟨_, rfl⟩
  rw [← hs5] at q5
  have hO' : OkPool p.l := by rw [hp]; exact hO
  replace hO := hO'
  refine seq_cut (σ := Int) (fun _ => [(0, .slice A bs.length c), (2, .pointer (some ⟨V, 0, none⟩)), (3, zi 0), (4, .pointer (some ⟨X, 0, none⟩)), (7, .pointer (some ⟨M, 0, none⟩))]) (fun n w' => ∃ s', Rd Class.n2 bs s5 n s' ∧ On s5 s' ∧ Ir w' h g A c bs p s' ∧ Mod (RS h g) w5 w') ?_ ?_
  rotate_left
  · intro K hK
    refine Exists.intro (some ⟨h, 0, none⟩) (And.intro (cell0 hX5) ?_)
    refine call_ (u_ok h g A c bs p s5 2 Pool.w2 w5 q5) ?_
    rintro e wa ⟨na, sa, rfl, ra, hba, oa, qa, ma⟩
    refine ⟨_, rfl, ?_⟩
    exact hK na _ _ ⟨rfl, rfl, rfl, rfl, rfl, trivial⟩ ⟨sa, ra, oa, qa, ma⟩
  rintro k6 w6 fr6 ⟨s6, r6, o6, q6, m6⟩
  have hX6 := m6.blk hX5 hXn
  have hV6 := m6.blk hV5 hVr
  have hM6 := m6.blk hM5 hMr
  have t6 := m6.mono (show ∀ b, b < w5.heap.size → RS h g b → RS h g b ∨ b = M from fun _ _ e => .inl e)
  -- its name
  refine seq_cut (σ := List UInt8) (fun _ => [(0, .slice A bs.length c), (2, .pointer (some ⟨V, 0, none⟩)), (3, zi 0), (4, .pointer (some ⟨X, 0, none⟩)), (7, .pointer (some ⟨M, 0, none⟩))]) (fun z w' => ∃ s', Rd (clsT p.l) bs s6 z s' ∧ On s6 s' ∧ Ir w' h g A c bs p s' ∧ Mod (fun b => RS h g b ∨ b = M) w6 w' ∧ w'.heap[X]? = some (.cells #[.pointer (some ⟨h, 0, none⟩)] 104 (0, 0)) ∧ w'.heap[V]? = some (.cells #[.slice none 0 0, .string ⟨#[]⟩, .string ⟨#[]⟩, .slice none 0 0, .slice none 0 0] 26 (0, 0)) ∧ w'.heap[M]? = some (.cells #[.slice A7 l.length c7, strV z, strV [], .slice none 0 0, .slice none 0 0] 26 (0, 0))) ?_ ?_
  rotate_left
  · intro K hK
    have nd := New.drew w6
    refine draw_ (w := w6) ok (.q 0 (.q 1 (.e 2 (.e 3 (.q 4 (.e 5 .done)))))) [5] (fun w'' : World => w''.heap[X]? = some (.cells #[.pointer (some ⟨h, 0, none⟩)] 104 (0, 0))) (by kernel_rfl) (by kernel_rfl) (by kernel_rfl) (by kernel_rfl) (by kernel_rfl) (nd.blk hX6) ?_
    refine Exists.intro (some ⟨h, 0, none⟩) (And.intro (fun w'' hw => cell0 hw) ?_)
    refine Exists.intro (some ⟨h, 0, none⟩) (And.intro (fun w'' hw => cell0 hw) ?_)
    refine call_ (u_ok h g A c bs p s6 2 Pool.w2 w6.drew (q6.new nd)) ?_
    rintro e wa ⟨na, sa, rfl, ra, hba, oa, qa, ma⟩
    refine ⟨_, rfl, ?_⟩
    have hXa := ma.blk (nd.blk hX6) hXn
    refine Exists.intro (fun w'' : World => w''.heap[X]? = some (.cells #[.pointer (some ⟨h, 0, none⟩)] 104 (0, 0))) ?_
    refine And.intro (fun _ h => h) ?_
    refine And.intro (hXa) ?_
    refine call_ (of_ok h g A c bs p sa na 7 wa qa hO hba.1 (.inr rfl)) ?_
    rintro e wb ⟨rfl, qb, mb⟩
    refine ⟨_, rfl, ?_⟩
    have hXb := mb.blk hXa hXn
    refine Exists.intro (fun w'' : World => w''.heap[X]? = some (.cells #[.pointer (some ⟨h, 0, none⟩)] 104 (0, 0))) ?_
    refine And.intro (fun _ h => h) ?_
    refine And.intro (hXb) ?_
    have hMb := mb.blk (ma.blk (nd.blk hM6) hMr) hMr
    refine And.intro ⟨_, cellB hMb rfl⟩ (And.intro (fzB hMb _) (force_ ?_))
    refine stK hMb (show (1 : Nat) < 5 by decide) ?_
    intro wc hMc mc sc
    exact hK (ofT p.l na 7) _ _ ⟨rfl, rfl, rfl, rfl, rfl, trivial⟩ ⟨_, rd_cls ra, oa.or _, qb.modN mc (fun b hb e => hM0 b hb e), Mod.trans ((Mod.trans nd.mod (both ma mb) fun _ _ e => e).mono fun _ _ e => .inl e) mc fun _ _ e => .inr e, mc.blk hXb hXM, mc.blk (mb.blk (ma.blk (nd.blk hV6) hVr) hVr) hVM, hMc⟩
  rintro nm w7 fr7 ⟨s7, r7, o7, q7, t7, hX7, hV7, hM7⟩
  -- its super
  refine seq_cut (σ := List UInt8) (fun _ => [(0, .slice A bs.length c), (2, .pointer (some ⟨V, 0, none⟩)), (3, zi 0), (4, .pointer (some ⟨X, 0, none⟩)), (7, .pointer (some ⟨M, 0, none⟩))]) (fun z w' => ∃ s', Rd (supT p.l) bs s7 z s' ∧ On s7 s' ∧ Ir w' h g A c bs p s' ∧ Mod (fun b => RS h g b ∨ b = M) w7 w' ∧ w'.heap[X]? = some (.cells #[.pointer (some ⟨h, 0, none⟩)] 104 (0, 0)) ∧ w'.heap[V]? = some (.cells #[.slice none 0 0, .string ⟨#[]⟩, .string ⟨#[]⟩, .slice none 0 0, .slice none 0 0] 26 (0, 0)) ∧ w'.heap[M]? = some (.cells #[.slice A7 l.length c7, strV nm, strV z, .slice none 0 0, .slice none 0 0] 26 (0, 0))) ?_ ?_
  rotate_left
  · intro K hK
    refine seq_cut (σ := Int) (fun n => [(0, .slice A bs.length c), (2, .pointer (some ⟨V, 0, none⟩)), (3, zi 0), (4, .pointer (some ⟨X, 0, none⟩)), (7, .pointer (some ⟨M, 0, none⟩)), (8, zi n)]) (fun n w' => ∃ s', Rd Class.n2 bs s7 n s' ∧ (0 ≤ n ∧ n < 65536) ∧ On s7 s' ∧ Ir w' h g A c bs p s' ∧ Mod (RS h g) w7 w') ?_ ?_
    rotate_left
    · intro K2 hK2
      refine Exists.intro (some ⟨h, 0, none⟩) (And.intro (cell0 hX7) ?_)
      refine call_ (u_ok h g A c bs p s7 2 Pool.w2 w7 q7) ?_
      rintro e wa ⟨na, sa, rfl, ra, hba, oa, qa, ma⟩
      refine ⟨_, rfl, ?_⟩
      exact hK2 na _ _ ⟨rfl, rfl, rfl, rfl, rfl, rfl, trivial⟩ ⟨sa, ra, hba, oa, qa, ma⟩
    rintro n wa fra ⟨sa, ra, hba, oa, qa, ma⟩
    have hXa := ma.blk hX7 hXn
    have hVa := ma.blk hV7 hVr
    have hMa := ma.blk hM7 hMr
    refine if_p (fun hn => ?_) (fun hn => ?_)
    · replace hn : 0 < n := hn
      refine Exists.intro (some ⟨h, 0, none⟩) (And.intro (cell0 hXa) ?_)
      refine call_ (of_ok h g A c bs p sa n 7 wa qa hO hba.1 (.inr rfl)) ?_
      rintro e wb ⟨rfl, qb, mb⟩
      refine ⟨_, rfl, ?_⟩
      have hMb := mb.blk hMa hMr
      refine And.intro ⟨_, cellB hMb rfl⟩ (And.intro (fzB hMb _) (force_ ?_))
      refine stK hMb (show (2 : Nat) < 5 by decide) ?_
      intro wc hMc mc sc
      exact hK (ofT p.l n 7) _ _ ⟨rfl, rfl, rfl, rfl, rfl, trivial⟩ ⟨_, Rd.sup1 ra (by omega) (rd_cls ra), oa.or _, qb.modN mc (fun b hb e => hM0 b hb e), Mod.trans ((both ma mb).mono fun _ _ e => .inl e) mc fun _ _ e => .inr e, mc.blk (mb.blk hXa hXn) hXM, mc.blk (mb.blk hVa hVr) hVM, hMc⟩
    · replace hn : ¬ 0 < n := hn
      exact hK [] _ _ ⟨rfl, rfl, rfl, rfl, rfl, trivial⟩ ⟨sa, Rd.sup0 ra (by omega), oa, qa, ma.mono fun _ _ e => .inl e, hXa, hVa, hMa⟩
  rintro sp w8 fr8 ⟨s8, r8, o8, q8, t8, hX8, hV8, hM8⟩
  refine seq_cut (σ := Int) (fun _ => [(0, .slice A bs.length c), (2, .pointer (some ⟨V, 0, none⟩)), (3, zi 0), (4, .pointer (some ⟨X, 0, none⟩)), (7, .pointer (some ⟨M, 0, none⟩))]) (fun n w' => ∃ s', Rd Class.n2 bs s8 n s' ∧ On s8 s' ∧ Ir w' h g A c bs p s' ∧ Mod (RS h g) w8 w') ?_ ?_
  rotate_left
  · intro K hK
    refine Exists.intro (some ⟨h, 0, none⟩) (And.intro (cell0 hX8) ?_)
    refine call_ (u_ok h g A c bs p s8 2 Pool.w2 w8 q8) ?_
    rintro e wa ⟨na, sa, rfl, ra, hba, oa, qa, ma⟩
    refine ⟨_, rfl, ?_⟩
    exact hK na _ _ ⟨rfl, rfl, rfl, rfl, rfl, trivial⟩ ⟨sa, ra, oa, qa, ma⟩
  rintro k9 w9 fr9 ⟨s9, r9, o9, q9, m9⟩
  have hX9 := m9.blk hX8 hXn
  have hV9 := m9.blk hV8 hVr
  have hM9 := m9.blk hM8 hMr
  have t9 := m9.mono (show ∀ b, b < w8.heap.size → RS h g b → RS h g b ∨ b = M from fun _ _ e => .inl e)
  -- its fields
  refine seq_cut (σ := (Option Addr × Nat) × List Fld) (fun _ => [(0, .slice A bs.length c), (2, .pointer (some ⟨V, 0, none⟩)), (3, zi 0), (4, .pointer (some ⟨X, 0, none⟩)), (7, .pointer (some ⟨M, 0, none⟩))]) (fun t w' => ∃ s', Rd (fldsT p.l) bs s9 t.2 s' ∧ csum cFld t.2 ≤ (0 + 8) * (s'.1 - s9.1) + 8 ∧ (∀ x ∈ t.2, i64 x.acc) ∧ On s9 s' ∧ LRep fldR w' (fun b => b < w9.heap.size) (.slice t.1.1 t.2.length t.1.2) t.2 ∧ Ir w' h g A c bs p s' ∧ Mod (fun b => RS h g b ∨ b = M) w9 w' ∧ w'.heap[X]? = some (.cells #[.pointer (some ⟨h, 0, none⟩)] 104 (0, 0)) ∧ w'.heap[V]? = some (.cells #[.slice none 0 0, .string ⟨#[]⟩, .string ⟨#[]⟩, .slice none 0 0, .slice none 0 0] 26 (0, 0)) ∧ w'.heap[M]? = some (.cells #[.slice A7 l.length c7, strV nm, strV sp, .slice t.1.1 t.2.length t.1.2, .slice none 0 0] 26 (0, 0))) ?_ ?_
  rotate_left
  · intro K hK
    refine Exists.intro (some ⟨h, 0, none⟩) (And.intro (cell0 hX9) ?_)
    refine call_ (members_fld h g A c bs p s9 w9 q9 hO X hX9 hXn (by omega)) ?_
    rintro e wa ⟨v, xs, sa, rfl, la, ra, ca, _, oa, qa, ma, fa⟩
    obtain ⟨Ax, cx, rfl, _⟩ := la.get fldOk (by decide)
    refine ⟨_, rfl, ?_⟩
    have hMa := ma.blk hM9 hMr
    have hMl : M < w9.heap.size := (Array.getElem?_eq_some_iff.1 hM9).1
    refine And.intro ⟨_, cellB hMa rfl⟩ (And.intro (fzB hMa _) (force_ ?_))
    refine stK hMa (show (3 : Nat) < 5 by decide) ?_
    intro wb hMb mb sb
    exact hK ((Ax, cx), xs) _ _ ⟨rfl, rfl, rfl, rfl, rfl, trivial⟩ ⟨sa, ra, ca, fa, oa, LRep.mod fldOk (by decide) la (mb.mono fun b _ e => by omega), qa.modN mb (fun b hb e => hM0 b hb e), Mod.trans (ma.mono fun _ _ e => .inl e) mb fun _ _ e => .inr e, mb.blk (ma.blk hX9 hXn) hXM, mb.blk (ma.blk hV9 hVr) hVM, hMb⟩
  rintro ⟨⟨A10, c10⟩, xs10⟩ w10 fr10 ⟨s10, r10, cc10, f10, o10, l10, q10, t10, hX10, hV10, hM10⟩
  dsimp only at r10 cc10 f10 l10 hM10
  -- its methods
  refine seq_cut (σ := (Option Addr × Nat) × List Mth) (fun _ => [(0, .slice A bs.length c), (2, .pointer (some ⟨V, 0, none⟩)), (3, zi 0), (4, .pointer (some ⟨X, 0, none⟩)), (7, .pointer (some ⟨M, 0, none⟩))]) (fun t w' => ∃ s', Rd (mthsT p.l) bs s10 t.2 s' ∧ csum cMth t.2 ≤ (22 + 58) * (s'.1 - s10.1) + 58 ∧ (∀ x ∈ t.2, i64 x.acc) ∧ On s10 s' ∧ LRep mthR w' (fun b => b < w10.heap.size) (.slice t.1.1 t.2.length t.1.2) t.2 ∧ Ir w' h g A c bs p s' ∧ Mod (fun b => RS h g b ∨ b = M) w10 w' ∧ w'.heap[X]? = some (.cells #[.pointer (some ⟨h, 0, none⟩)] 104 (0, 0)) ∧ w'.heap[V]? = some (.cells #[.slice none 0 0, .string ⟨#[]⟩, .string ⟨#[]⟩, .slice none 0 0, .slice none 0 0] 26 (0, 0)) ∧ w'.heap[M]? = some (.cells #[.slice A7 l.length c7, strV nm, strV sp, .slice A10 xs10.length c10, .slice t.1.1 t.2.length t.1.2] 26 (0, 0))) ?_ ?_
  rotate_left
  · intro K hK
    refine Exists.intro (some ⟨h, 0, none⟩) (And.intro (cell0 hX10) ?_)
    refine call_ (members_mth h g A c bs p s10 w10 q10 hO X hX10 hXn (by omega)) ?_
    rintro e wa ⟨v, xs, sa, rfl, la, ra, ca, _, oa, qa, ma, fa⟩
    obtain ⟨Ax, cx, rfl, _⟩ := la.get mthOk (by decide)
    refine ⟨_, rfl, ?_⟩
    have hMa := ma.blk hM10 hMr
    have hMl : M < w10.heap.size := (Array.getElem?_eq_some_iff.1 hM10).1
    refine And.intro ⟨_, cellB hMa rfl⟩ (And.intro (fzB hMa _) (force_ ?_))
    refine stK hMa (show (4 : Nat) < 5 by decide) ?_
    intro wb hMb mb sb
    exact hK ((Ax, cx), xs) _ _ ⟨rfl, rfl, rfl, rfl, rfl, trivial⟩ ⟨sa, ra, ca, fa, oa, LRep.mod mthOk (by decide) la (mb.mono fun b _ e => by omega), qa.modN mb (fun b hb e => hM0 b hb e), Mod.trans (ma.mono fun _ _ e => .inl e) mb fun _ _ e => .inr e, mb.blk (ma.blk hX10 hXn) hXM, mb.blk (ma.blk hV10 hVr) hVM, hMb⟩
  rintro ⟨⟨A11, c11⟩, xs11⟩ w11 fr11 ⟨s11, r11, cc11, f11, o11, l11, q11, t11, hX11, hV11, hM11⟩
  dsimp only at r11 cc11 f11 l11 hM11
  -- told again
  have hMl : M < w5.heap.size := (Array.getElem?_eq_some_iff.1 hM5).1
  have hgl : g < w1.heap.size := by omega
  have z6 := t6.size
  have z7 := t7.size
  have z8 := t8.size
  have z9 := t9.size
  have z10 := t10.size
  have z11 := t11.size
  have hlo : ∀ b, RS h g b ∨ b = M → b < w2.heap.size ∨ b = M := fun b e => by
    rcases e with (e | e) | e
    · have e : b = g := e; omega
    · have e : b = h := e; omega
    · exact .inr e
  have hup : ∀ b, RS h g b ∨ b = M → w.heap.size ≤ b ∧ b < w5.heap.size := fun b e => by
    have n0z := n0.size
    rcases e with (e | e) | e
    · have e : b = g := e; omega
    · have e : b = h := e; omega
    · omega
  have t511 : Mod (fun b => RS h g b ∨ b = M) w5 w11 := both (both (both (both (both t6 t7) t8) t9) t10) t11
  have lp11 := LRep.mod entOk (by decide) lp5 (t511.mono fun b _ e => hlo b e)
  have lf11 := LRep.mod fldOk (by decide) l10 (t11.mono fun b _ e => by have := (hup b e).2; omega)
  have n11 : New w w11 := Mod.trans (Mod.trans (Mod.trans n3 m4 fun b hb e => by have n0z := n0.size; omega) n5.mod fun _ _ e => e) t511 fun b hb e => by have := (hup b e).1; omega
  obtain ⟨x, hx⟩ : ∃ x : Cls, x = ⟨l, nm, sp, xs10, xs11⟩ := ⟨_, rfl⟩
  have hclsV : clsR w11 (fun b => b < w.heap.size ∨ b = V) [.slice A7 l.length c7, strV nm, strV sp, .slice A10 xs10.length c10, .slice A11 xs11.length c11] x := by
    have n0z := n0.size
    have n1z := n1.size
    rw [hx]
    exact ⟨_, _, _, rfl, LRep.weak entOk lp11 (fun b _ e => .inl (by omega)), LRep.weak fldOk lf11 (fun b _ e => by omega), LRep.weak mthOk l11 (fun b _ e => by omega)⟩
  have hcls := clsOk.weak (S' := fun b => b < w.heap.size) hclsV fun b hb e => .inl e
  have hfx : fCls x := by rw [hx]; exact ⟨oks3, f10, f11⟩
  have hcx : cCls x ≤ 500000000 := by
    rw [hx]
    show csum cFld xs10 + csum cMth xs11 ≤ _
    have b10 := o10.1
    have b11 := o11.1
    have := r11.2.1
    omega
  have hmath : ∀ y, Is bs y → y = x ∧ s11.2 = false := fun y hy => by
    rw [hs5] at r6
    rw [hp] at r7 r8 r10 r11
    rw [hx]
    exact parse_math hy hr3 r6 r7 r8 r9 r10 r11
  have hzw := n11.size
  refine seq_cut (σ := Unit) (fun _ => [(0, .slice A bs.length c), (2, .pointer (some ⟨V, 0, none⟩)), (3, zi 0), (7, .pointer (some ⟨M, 0, none⟩))]) (fun _ w' => New w11 w' ∧ Is bs x) ?_ ?_
  rotate_left
  · intro K hK
    refine seq_cut (σ := (Option Addr × Nat) × List UInt8 × Int) (fun t => [(0, .slice A bs.length c), (2, .pointer (some ⟨V, 0, none⟩)), (3, zi 0), (4, .pointer (some ⟨X, 0, none⟩)), (7, .pointer (some ⟨M, 0, none⟩)), (9, .slice t.1.1 t.2.1.length t.1.2), (10, zi t.2.2)]) (fun t w' => t.2.1 = bytesOf x ∧ t.2.2 = errOf x ∧ Row w' t.1.1 (bvs t.2.1) ∧ New w11 w') ?_ ?_
    rotate_left
    · intro K2 hK2
      refine loadN_row (vs := [.slice A7 l.length c7, strV nm, strV sp, .slice A10 xs10.length c10, .slice A11 xs11.length c11]) (rowB hM11) rfl ?_
      refine call_ (Print_ok _ x (fun b => b < w.heap.size) w11 hcls hfx (fun k h0 h5 => n11.cell (hk k h0 h5)) (by omega) hcx) ?_
      rintro e wa ⟨A2, q2, rfl, row2, _, _, na⟩
      refine ⟨_, rfl, ?_⟩
      exact hK2 ((A2, q2), bytesOf x, errOf x) _ _ ⟨rfl, rfl, rfl, rfl, rfl, rfl, rfl, trivial⟩ ⟨rfl, rfl, row2, na⟩
    rintro ⟨⟨A12, c12⟩, by_, er⟩ w12 fr12 ⟨hby, her, row12, n12⟩
    dsimp only at hby her row12
    have hX12 := n12.blk hX11
    have hV12 := n12.blk hV11
    have hq12 := n12.blk q11.blk
    have nn := n11.trans n12
    refine Exists.intro (some ⟨h, 0, none⟩) (And.intro (cell0 hX12) ?_)
    refine Exists.intro s11.2 (And.intro (cellB hq12 rfl) ?_)
    refine if_ (fun hb => ?_) (fun hb => ?_)
    · replace hb : s11.2 = true := hb
      refine And.intro rfl ?_
      refine storeN_all (vs := zeroC) hV12 rfl one_zero ?_
      intro wz hz mz sz
      refine loadN_row (vs := zeroC) (rowB hz) rfl ?_
      exact pres_bad (nn) mz (by omega) (fun y hy => by rw [(hmath y hy).2] at hb; cases hb) (by rw [if_neg (by omega)]; rfl)
    · refine if_n (fun hne => ?_) (fun heq => ?_)
      · refine And.intro rfl ?_
        refine storeN_all (vs := zeroC) hV12 rfl one_zero ?_
        intro wz hz mz sz
        refine loadN_row (vs := zeroC) (rowB hz) rfl ?_
        exact pres_bad (nn) mz (by omega) (fun y hy => hne (by rw [her, ← (hmath y hy).1]; exact hy.1)) (by rw [if_neg (by omega)]; rfl)
      · refine call_ (Equal_ok A12 c12 by_ A c bs w12 row12 ((hr.new nn))) ?_
        rintro e wa ⟨rfl, hwa⟩
        obtain rfl := hwa.symm
        refine ⟨_, rfl, ?_⟩
        refine if_n (fun hne => ?_) (fun he => ?_)
        · refine And.intro rfl ?_
          refine storeN_all (vs := zeroC) hV12 rfl one_zero ?_
          intro wz hz mz sz
          refine loadN_row (vs := zeroC) (rowB hz) rfl ?_
          exact pres_bad (nn) mz (by omega) (fun y hy => hne (by rw [hby, ← (hmath y hy).1]; exact hy.2)) (by rw [if_neg (by omega)]; rfl)
        · exact hK () _ _ ⟨rfl, rfl, rfl, rfl, trivial⟩ ⟨n12, by rw [← her]; exact heq, by rw [← hby]; exact he⟩
  rintro _ w12 fr12 ⟨n12, hIs⟩
  have hV12 := n12.blk hV11
  have hM12 := n12.blk hM11
  have nn := n11.trans n12
  refine loadN_row (vs := [.slice A7 l.length c7, strV nm, strV sp, .slice A10 xs10.length c10, .slice A11 xs11.length c11]) (rowB hM12) rfl ?_
  refine And.intro rfl ?_
  refine storeN_all (vs := [.slice A7 l.length c7, strV nm, strV sp, .slice A10 xs10.length c10, .slice A11 xs11.length c11]) hV12 rfl (one_cls _ _ _ _ _ _ _ _ _ _ _) ?_
  intro wz hz mz sz
  refine loadN_row (vs := [.slice A7 l.length c7, strV nm, strV sp, .slice A10 xs10.length c10, .slice A11 xs11.length c11]) (rowB hz) rfl ?_
  have hcls12 := clsOk.mod hclsV (n12.mod.mono fun _ _ e => False.elim e)
  have hclsz : clsR wz (fun b => b < w.heap.size) [.slice A7 l.length c7, strV nm, strV sp, .slice A10 xs10.length c10, .slice A11 xs11.length c11] x := clsOk.weak (clsOk.mod hcls12 (mz.mono fun b _ e => .inr e)) fun b _ e => .inl e
  exact ⟨nn.st mz (by omega), .inl ⟨_, x, rfl, hclsz, hfx, hcx, hIs⟩⟩

end Go.Proofs.YtdcaafldnbcdkaaDoor.Class

/-! ### KWorks -/
namespace Go.Proofs.YtdcaafldnbcdkaaDoor.Class
open Go Go.Proofs.YtdcaafldnbcdkaaDoor Go.Proofs.YtdcaafldnbcdkaaDoor.Eng Go.Proofs Go.Proofs.YtdcaafldnbcdkaaDoor.Word Go.Proofs.YtdcaafldnbcdkaaDoor.Fmt
open Go.Proofs.YtdcaafldnbcdkaaDoor.Pool (Ent at_ poolF strV entC entV EntOk Pl OkPool both own_low tagAt)
set_option maxRecDepth 10000

def smallC : Cls := ⟨[⟨0, [], 0, 0, 0⟩, ⟨1, [97], 0, 0, 0⟩, ⟨7, [], 0, 1, 0⟩], [97], [], [], []⟩
def smallB : List UInt8 := [202, 254, 186, 190, 0, 0, 0, 52, 0, 3, 1, 0, 1, 97, 7, 0, 1, 0, 33, 0, 2, 0, 0, 0, 0, 0, 0, 0, 0, 0, 0]
theorem small_ok (w : World) : Calls Tryd.prog 22 #[] w fun e w' => ∃ cs, e = .returned (.agg (List.toArray cs)) ∧ clsR w' (fun b => b < w.heap.size) cs smallC ∧ New w w' := by
  refine enter ok Tryd.func22 rfl rfl rfl ?_
  refine seq_cut (σ := Unit) (fun _ => [(0, .pointer (some ⟨w.heap.size, 0, none⟩))]) (fun _ w' => New w w' ∧ w'.heap.size = w.heap.size + 1 ∧ w'.heap[w.heap.size]? = some (.cells #[.slice none 0 0, .string ⟨#[]⟩, .string ⟨#[]⟩, .slice none 0 0, .slice none 0 0] 26 (0, 0))) ?_ ?_
  rotate_left
  · intro K hK
    exact hK () _ _ ⟨rfl, trivial⟩ ⟨New.alloc w _, by simp, heap_alloc_new w (.cells #[.slice none 0 0, .string ⟨#[]⟩, .string ⟨#[]⟩, .slice none 0 0, .slice none 0 0] 26)⟩
  rintro _ w1 fr1 ⟨n1, s1, hb1⟩
  have n2 := New.alloc w1 (.cells #[zi 0, strV [], zi 0, zi 0, zi 0, zi 1, strV [97], zi 0, zi 0, zi 0, zi 7, strV [], zi 0, zi 1, zi 0] 42)
  have row2 := row_alloc w1 [zi 0, strV [], zi 0, zi 0, zi 0, zi 1, strV [97], zi 0, zi 0, zi 0, zi 7, strV [], zi 0, zi 1, zi 0] 42 (0, 0)
  have hb2 := n2.blk hb1
  refine And.intro rfl ?_
  rw [s1]
  refine storeN_all (vs := [.slice (some ⟨w.heap.size + 1, 0, none⟩) 3 3, strV [97], strV [], .slice none 0 0, .slice none 0 0]) hb2 rfl (fun u hu => by
    simp only [List.mem_cons, List.not_mem_nil, or_false] at hu
    rcases hu with rfl | rfl | rfl | rfl | rfl <;> rfl) ?_
  intro w3 hb3 m3 s3
  refine loadN_row (vs := [.slice (some ⟨w.heap.size + 1, 0, none⟩) 3 3, strV [97], strV [], .slice none 0 0, .slice none 0 0]) (rowB hb3) rfl ?_
  have n3 : New w w3 := (n1.trans n2).st m3 (Nat.le_refl _)
  have hsz : (w1.alloc (.cells #[zi 0, strV [], zi 0, zi 0, zi 0, zi 1, strV [97], zi 0, zi 0, zi 0, zi 7, strV [], zi 0, zi 1, zi 0] 42)).heap.size = w.heap.size + 2 := by simp; omega
  have hl : (w1.alloc (.cells #[zi 0, strV [], zi 0, zi 0, zi 0, zi 1, strV [97], zi 0, zi 0, zi 0, zi 7, strV [], zi 0, zi 1, zi 0] 42)).heap.size ≤ w3.heap.size := m3.size
  refine ⟨_, rfl, ⟨_, _, _, rfl, ⟨some ⟨w.heap.size + 1, 0, none⟩, 3, smallC.pool.map fun x => (entC x, x), rfl, rfl, Nat.le_refl _, by omega, by decide, ?_, ?_, ?_⟩, LRep.nil _ _ _ trivial, LRep.nil _ _ _ trivial⟩, n3⟩
  · rw [s1] at row2
    exact row2.mod m3 fun a ha => by cases ha; show ¬ w.heap.size + 1 = w.heap.size; omega
  · intro a ha _
    cases ha
    exact ⟨by show w.heap.size + 1 < _; omega, by show ¬ w.heap.size + 1 < w.heap.size; omega⟩
  · intro t ht
    obtain ⟨x, _, rfl⟩ := List.mem_map.1 ht
    rfl
theorem small_enc : fileT.enc smallC = smallB := by rfl
theorem small_idx : idx (clsP smallC.pool) smallC.pool [97] = 2 := by rfl
theorem small_file : fileT.ok smallC := by
  have h0 : ∀ n : Int, 0 ≤ n → n < 65536 → n2.ok n := fun n h1 h2 => n2_ok h1 h2
  have hm : n4.ok 3405691582 := ⟨by rfl, by unfold i64; decide⟩
  refine ⟨trivial, hm, h0 0 (by decide) (by decide), h0 52 (by decide) (by decide), ⟨by rfl, fun x hx => ?_⟩, h0 33 (by decide) (by decide), ?_, .inl rfl, h0 0 (by decide) (by decide), ⟨Nat.zero_le _, fun _ h => (by cases h)⟩, ⟨Nat.zero_le _, fun _ h => (by cases h)⟩, h0 0 (by decide) (by decide)⟩
  · simp only [smallC, List.mem_cons, List.not_mem_nil, or_false] at hx
    rcases hx with rfl | rfl | rfl <;> (unfold i64; decide)
  · refine ⟨⟨?_, ?_⟩, ?_⟩
    · show 0 < idx (clsP smallC.pool) smallC.pool [97]
      rw [small_idx]
      decide
    · show idx (clsP smallC.pool) smallC.pool [97] < 3
      rw [small_idx]
      decide
    · show n2.ok ((idx (clsP smallC.pool) smallC.pool [97] : Nat) : Int)
      rw [small_idx]
      exact h0 2 (by decide) (by decide)
theorem small_err : errOf smallC = 0 ∧ bytesOf smallC = smallB := by
  rcases err_cases smallC with ⟨h1, _, _, h2⟩ | ⟨h1, _⟩ | ⟨h1, _⟩
  · exact ⟨h1, h2.trans small_enc⟩
  · unfold errOf at h1
    rw [if_pos small_file, small_enc] at h1
    exact absurd h1 (by decide)
  · unfold errOf at h1
    rw [if_pos small_file, small_enc] at h1
    exact absurd h1 (by decide)
theorem small_fine : fCls smallC := ⟨fun x hx => by
    simp only [smallC, List.mem_cons, List.not_mem_nil, or_false] at hx
    rcases hx with rfl | rfl | rfl <;> exact ⟨by unfold Pool.I64; decide, by decide, by unfold Pool.I64; decide, by unfold Pool.I64; decide, by unfold Pool.I64; decide⟩, fun _ h => (by cases h), fun _ h => (by cases h)⟩
theorem works_ok (w : World) (hk : Kt w) (hG : 0 < w.heap.size) : Calls Tryd.prog 9 #[] w fun e w' => e = .returned (.bool true) ∧ New w w' := by
  refine enter ok Tryd.func9 rfl rfl rfl ?_
  refine seq_assign ?_
  refine seq_cut (σ := (Option Addr × Nat) × Int) (fun t => [(1, .slice t.1.1 31 t.1.2), (2, zi t.2)]) (fun t w' => New w w' ∧ t.2 = 0 ∧ Row w' t.1.1 (bvs smallB)) ?_ ?_
  rotate_left
  · intro K hK
    refine call_ (small_ok w) ?_
    rintro e w1 ⟨cs, rfl, hc, n1⟩
    have hc0 := hc
    obtain ⟨_, _, _, rfl, lp, lf, lm⟩ := hc
    obtain ⟨A, q, rfl, _⟩ := lp.get entOk (by decide)
    obtain ⟨Af, cf, rfl, _⟩ := lf.get fldOk (by decide)
    obtain ⟨Am, cm, rfl, _⟩ := lm.get mthOk (by decide)
    refine ⟨_, rfl, ?_⟩
    have hs := n1.size
    refine call_ (Print_ok _ smallC _ w1 hc0 small_fine (fun k h0 h5 => n1.cell (hk k h0 h5)) (by omega) (by decide)) ?_
    rintro e w2 ⟨A2, q2, rfl, row2, _, _, n2⟩
    rw [small_err.2] at row2
    rw [small_err.1, small_err.2]
    refine ⟨_, rfl, ?_⟩
    exact hK ((A2, q2), 0) _ _ ⟨rfl, rfl, trivial⟩ ⟨n1.trans n2, rfl, row2⟩
  rintro ⟨⟨A2, q2⟩, er⟩ w1 fr1 ⟨n1, her, row1⟩
  dsimp only at her row1
  refine if_p (fun _ => ?_) (fun h => absurd her h)
  refine Exists.intro smallB (And.intro rfl (And.intro row1 ?_))
  exact ⟨(show Ending.returned (.bool (decide ((⟨smallB.toArray⟩ : ByteArray) = ⟨smallB.toArray⟩))) = .returned (.bool true) by rw [decide_eq_true rfl]), n1⟩

end Go.Proofs.YtdcaafldnbcdkaaDoor.Class

/-! ### KOpen -/
namespace Go.Proofs.YtdcaafldnbcdkaaDoor.Class
open Go Go.Proofs.YtdcaafldnbcdkaaDoor Go.Proofs.YtdcaafldnbcdkaaDoor.Eng Go.Proofs Go.Proofs.YtdcaafldnbcdkaaDoor.Word Go.Proofs.YtdcaafldnbcdkaaDoor.Fmt Go.ChangeShapes Go.WideShapes Go.RowKit
open Go.Proofs.YtdcaafldnbcdkaaDoor.Pool (Ent at_ poolF strV entC EntOk Pl)
set_option maxRecDepth 10000

theorem wf64 {z : Int} (hw : (Lit.int .i64 z).wf = true) : i64 z := by
  simp [Lit.wf, IntKind.min, IntKind.max, IntKind.signed, IntKind.bits] at hw
  unfold i64
  omega
theorem uInt : Tryd.prog.underlying 3 = some (.int .i64) := by kernel_rfl
theorem cellInt : Tryd.prog.cellsOf 3 = 1 := by kernel_rfl
theorem uStr : Tryd.prog.underlying 9 = some .string := by kernel_rfl
theorem cellStr : Tryd.prog.cellsOf 9 = 1 := by kernel_rfl
theorem uU8 : Tryd.prog.underlying 5 = some (.int .u8) := by kernel_rfl
theorem cellU8 : Tryd.prog.cellsOf 5 = 1 := by kernel_rfl
theorem uBys : Tryd.prog.underlying 30 = some (.slice 5) := by kernel_rfl
theorem lBys : Tryd.prog.cellsOf 30 = 1 := by kernel_rfl
theorem uEnts : Tryd.prog.underlying 22 = some (.slice 42) := by kernel_rfl
theorem lEnts : Tryd.prog.cellsOf 22 = 1 := by kernel_rfl
theorem uTys : Tryd.prog.underlying 47 = some (.slice 51) := by kernel_rfl
theorem lTys : Tryd.prog.cellsOf 47 = 1 := by kernel_rfl
theorem uMps : Tryd.prog.underlying 32 = some (.slice 49) := by kernel_rfl
theorem lMps : Tryd.prog.cellsOf 32 = 1 := by kernel_rfl
theorem uHnds : Tryd.prog.underlying 31 = some (.slice 46) := by kernel_rfl
theorem lHnds : Tryd.prog.cellsOf 31 = 1 := by kernel_rfl
theorem uFlds : Tryd.prog.underlying 23 = some (.slice 44) := by kernel_rfl
theorem lFlds : Tryd.prog.cellsOf 23 = 1 := by kernel_rfl
theorem uMths : Tryd.prog.underlying 24 = some (.slice 36) := by kernel_rfl
theorem lMths : Tryd.prog.cellsOf 24 = 1 := by kernel_rfl
theorem cEnt : Tryd.prog.cellsOf 42 = 5 := by kernel_rfl
theorem cType : Tryd.prog.cellsOf 51 = 2 := by kernel_rfl
theorem sType : structOf Tryd.prog 51 = [(3, 0), (9, 1)] := by kernel_rfl
theorem cMap : Tryd.prog.cellsOf 49 = 3 := by kernel_rfl
theorem sMap : structOf Tryd.prog 49 = [(3, 0), (47, 1), (47, 2)] := by kernel_rfl
theorem cHandler : Tryd.prog.cellsOf 46 = 4 := by kernel_rfl
theorem sHandler : structOf Tryd.prog 46 = [(3, 0), (3, 1), (3, 2), (3, 3)] := by kernel_rfl
theorem cCode : Tryd.prog.cellsOf 34 = 5 := by kernel_rfl
theorem sCode : structOf Tryd.prog 34 = [(3, 0), (3, 1), (30, 2), (31, 3), (32, 4)] := by kernel_rfl
theorem cField : Tryd.prog.cellsOf 44 = 3 := by kernel_rfl
theorem sField : structOf Tryd.prog 44 = [(3, 0), (9, 1), (9, 2)] := by kernel_rfl
theorem cMethod : Tryd.prog.cellsOf 36 = 8 := by kernel_rfl
theorem sMethod : structOf Tryd.prog 36 = [(3, 0), (9, 1), (9, 2), (34, 3)] := by kernel_rfl
theorem cClass : Tryd.prog.cellsOf 26 = 5 := by kernel_rfl
theorem sClass : structOf Tryd.prog 26 = [(22, 0), (9, 1), (9, 2), (23, 3), (24, 4)] := by kernel_rfl
abbrev S0 (W : World) : Nat → Prop := fun b => W.heap.size ≤ b
section
variable {H : Type} {enc : TypeId × Value → H} {W : World} {fuel : Nat} {cs : List Value} {x : DataW H × List MemPlace}
/-- What a list's memory is, if one knows what its members' is. -/
theorem list_of {α : Type} {R : RepT α} {sz : Nat} {fine : α → Prop} {tl te : TypeId} (hR : RepOk R sz) (hsz : 0 < sz) (hu : Tryd.prog.underlying tl = some (.slice te)) (hc : Tryd.prog.cellsOf te = sz) (hb : 8 ≤ Tryd.prog.bytesOf te)
    (el : ∀ (fuel : Nat) (cs : List Value) (x : DataW H × List MemPlace), DataW.trod enc Tryd.prog W 0 (fun _ => true) true fuel te cs = some x → Sz Tryd.prog te x.1 → ∃ y : α, R W (S0 W) cs y ∧ fine y)
    (h : DataW.trod enc Tryd.prog W 0 (fun _ => true) true fuel tl cs = some x) (hs : Sz Tryd.prog tl x.1) : ∃ v xs, cs = [v] ∧ LRep R W (S0 W) v xs ∧ ∀ y ∈ xs, fine y := by
  obtain ⟨A, n, c, css, m, hcs, hn, hcap, hm, hr, hw, he⟩ := trod_elemsW hu h
  rw [hc] at hr
  have each : ∀ (i : Nat) cs, css[i]? = some cs → ∃ y : α, R W (S0 W) cs y ∧ fine y := by
    intro i cs hi
    obtain ⟨y, hy, hsy⟩ := he i cs hi
    exact el _ _ _ hy (hsy hs)
  obtain ⟨l, hlen, hl⟩ := each_of each
  have hw' := hw hs
  have hrb : reachBytes ≤ 140737488355328 := by decide
  have hn8 : n * 8 ≤ n * Tryd.prog.bytesOf te := Nat.mul_le_mul_left n hb
  have hmap : (css.zip l).map (·.1) = css := by rw [List.map_fst_zip]; omega
  have hmap2 : (css.zip l).map (·.2) = l := by rw [List.map_snd_zip]; omega
  refine ⟨_, l, hcs, ⟨A, c, css.zip l, by rw [hlen, ← hn], hmap2, by omega, hm, by omega, ?_, ?_, ?_⟩, ?_⟩
  · show Row W A ((css.zip l).map (·.1)).flatten
    rw [hmap]
    exact row_of_rows2 hr
  · intro a ha hne
    have hlt : a.block < W.heap.size := by
      refine (row_of_rows2 hr).lt ?_ ha
      intro e
      have h0 : 0 < css.length := by
        refine Nat.pos_of_ne_zero fun h0 => hne ?_
        rw [List.length_eq_zero_iff.1 h0]
        rfl
      have h1 := hr 0 _ (List.getElem?_eq_getElem h0)
      have h2 : css[0] = [] := by
        have := List.flatten_eq_nil_iff.1 e
        exact this _ (List.getElem_mem h0)
      rw [h2] at h1
      simp at h1
      omega
    exact ⟨hlt, by show ¬ W.heap.size ≤ a.block; omega⟩
  · intro t ht
    obtain ⟨i, hi, rfl⟩ := List.getElem_of_mem ht
    have hi1 : i < css.length := by rw [List.length_zip] at hi; omega
    have hi2 : i < l.length := by omega
    obtain ⟨y, hy, hok⟩ := hl i _ (List.getElem?_eq_getElem hi1)
    rw [List.getElem?_eq_getElem hi2] at hy
    cases hy
    rw [List.getElem_zip]
    exact hok.1
  · intro y hy
    obtain ⟨i, hi, rfl⟩ := List.getElem_of_mem hy
    have hi1 : i < css.length := by omega
    obtain ⟨y', hy', hok⟩ := hl i _ (List.getElem?_eq_getElem hi1)
    rw [List.getElem?_eq_getElem hi] at hy'
    cases hy'
    exact hok.2
theorem l2 {cs : List Value} {a b : Value} (hl : cs.length = 2) (h0 : cs[0]? = some a) (h1 : cs[1]? = some b) : cs = [a, b] := by
  match cs, hl with
  | [x0, x1], _ => simp_all
theorem l3 {cs : List Value} {a b c : Value} (hl : cs.length = 3) (h0 : cs[0]? = some a) (h1 : cs[1]? = some b) (h2 : cs[2]? = some c) : cs = [a, b, c] := by
  match cs, hl with
  | [x0, x1, x2], _ => simp_all
theorem l4 {cs : List Value} {a b c d : Value} (hl : cs.length = 4) (h0 : cs[0]? = some a) (h1 : cs[1]? = some b) (h2 : cs[2]? = some c) (h3 : cs[3]? = some d) : cs = [a, b, c, d] := by
  match cs, hl with
  | [x0, x1, x2, x3], _ => simp_all
theorem l5 {cs : List Value} {a b c d e : Value} (hl : cs.length = 5) (h0 : cs[0]? = some a) (h1 : cs[1]? = some b) (h2 : cs[2]? = some c) (h3 : cs[3]? = some d) (h4 : cs[4]? = some e) : cs = [a, b, c, d, e] := by
  match cs, hl with
  | [x0, x1, x2, x3, x4], _ => simp_all
theorem l8 {cs : List Value} {a b c d e f g h : Value} (hl : cs.length = 8) (h0 : cs[0]? = some a) (h1 : cs[1]? = some b) (h2 : cs[2]? = some c) (h3 : cs[3]? = some d) (h4 : cs[4]? = some e) (h5 : cs[5]? = some f) (h6 : cs[6]? = some g) (h7 : cs[7]? = some h) : cs = [a, b, c, d, e, f, g, h] := by
  match cs, hl with
  | [x0, x1, x2, x3, x4, x5, x6, x7], _ => simp_all
theorem str_at {b : ByteArray} : Value.string b = strV b.data.toList := (Pool.str_back b).symm
def noFine {α : Type} (_ : α) : Prop := True
theorem ent_of' (h : DataW.trod enc Tryd.prog W 0 (fun _ => true) true fuel 42 cs = some x) (_ : Sz Tryd.prog 42 x.1) : ∃ y : Ent, entR W (S0 W) cs y ∧ EntOk y := by
  obtain ⟨r, h1, h2⟩ := Pool.ent_of h
  exact ⟨r, h1, h2⟩
theorem ents_of (h : DataW.trod enc Tryd.prog W 0 (fun _ => true) true fuel 22 cs = some x) (hs : Sz Tryd.prog 22 x.1) : ∃ v xs, cs = [v] ∧ LRep entR W (S0 W) v xs ∧ ∀ y ∈ xs, EntOk y :=
  list_of entOk (by decide) uEnts cEnt (by rw [show Tryd.prog.bytesOf 42 = 48 by kernel_rfl]; decide) (fun _ _ _ h hs => ent_of' h hs) h hs
theorem ty_of (h : DataW.trod enc Tryd.prog W 0 (fun _ => true) true fuel 51 cs = some x) (hs : Sz Tryd.prog 51 x.1) : ∃ y : Ty, tyR W (S0 W) cs y ∧ noFine y := by
  obtain ⟨hl, n', hf'⟩ := trod_fieldsW sType (by simp) h
  rw [cType] at hl
  obtain ⟨_, y0, s0⟩ := hf' 0 _ _ rfl
  obtain ⟨z0, g0, b0⟩ := field_int uInt cellInt y0
  obtain ⟨_, y1, s1⟩ := hf' 1 _ _ rfl
  obtain ⟨z1, g1, b1⟩ := field_string uStr cellStr y1
  rw [str_at] at g1
  exact ⟨⟨z0, z1.data.toList⟩, l2 hl g0 g1, trivial⟩
theorem tys_of (h : DataW.trod enc Tryd.prog W 0 (fun _ => true) true fuel 47 cs = some x) (hs : Sz Tryd.prog 47 x.1) : ∃ v xs, cs = [v] ∧ LRep tyR W (S0 W) v xs ∧ ∀ y ∈ xs, noFine y :=
  list_of tyOk (by decide) uTys cType (by rw [show Tryd.prog.bytesOf 51 = 24 by kernel_rfl]; decide) (fun _ _ _ h hs => ty_of h hs) h hs
theorem mp_of (h : DataW.trod enc Tryd.prog W 0 (fun _ => true) true fuel 49 cs = some x) (hs : Sz Tryd.prog 49 x.1) : ∃ y : Mp, mpR W (S0 W) cs y ∧ noFine y := by
  obtain ⟨hl, n', hf'⟩ := trod_fieldsW sMap (by simp) h
  rw [cMap] at hl
  obtain ⟨_, y0, s0⟩ := hf' 0 _ _ rfl
  obtain ⟨z0, g0, b0⟩ := field_int uInt cellInt y0
  obtain ⟨_, y1, s1⟩ := hf' 1 _ _ rfl
  obtain ⟨v1, k1, g1, hv1, hf1⟩ := tys_of y1 (s1 hs)
  rw [lTys] at g1
  obtain ⟨_, y2, s2⟩ := hf' 2 _ _ rfl
  obtain ⟨v2, k2, g2, hv2, hf2⟩ := tys_of y2 (s2 hs)
  rw [lTys] at g2
  exact ⟨⟨z0, k1, k2⟩, ⟨v1, v2, l3 hl g0 (cell_of_cut g1) (cell_of_cut g2), hv1, hv2⟩, trivial⟩
theorem mps_of (h : DataW.trod enc Tryd.prog W 0 (fun _ => true) true fuel 32 cs = some x) (hs : Sz Tryd.prog 32 x.1) : ∃ v xs, cs = [v] ∧ LRep mpR W (S0 W) v xs ∧ ∀ y ∈ xs, noFine y :=
  list_of mpOk (by decide) uMps cMap (by rw [show Tryd.prog.bytesOf 49 = 56 by kernel_rfl]; decide) (fun _ _ _ h hs => mp_of h hs) h hs
theorem hnd_of (h : DataW.trod enc Tryd.prog W 0 (fun _ => true) true fuel 46 cs = some x) (hs : Sz Tryd.prog 46 x.1) : ∃ y : Hnd, hndR W (S0 W) cs y ∧ noFine y := by
  obtain ⟨hl, n', hf'⟩ := trod_fieldsW sHandler (by simp) h
  rw [cHandler] at hl
  obtain ⟨_, y0, s0⟩ := hf' 0 _ _ rfl
  obtain ⟨z0, g0, b0⟩ := field_int uInt cellInt y0
  obtain ⟨_, y1, s1⟩ := hf' 1 _ _ rfl
  obtain ⟨z1, g1, b1⟩ := field_int uInt cellInt y1
  obtain ⟨_, y2, s2⟩ := hf' 2 _ _ rfl
  obtain ⟨z2, g2, b2⟩ := field_int uInt cellInt y2
  obtain ⟨_, y3, s3⟩ := hf' 3 _ _ rfl
  obtain ⟨z3, g3, b3⟩ := field_int uInt cellInt y3
  exact ⟨⟨z0, z1, z2, z3⟩, l4 hl g0 g1 g2 g3, trivial⟩
theorem hnds_of (h : DataW.trod enc Tryd.prog W 0 (fun _ => true) true fuel 31 cs = some x) (hs : Sz Tryd.prog 31 x.1) : ∃ v xs, cs = [v] ∧ LRep hndR W (S0 W) v xs ∧ ∀ y ∈ xs, noFine y :=
  list_of hndOk (by decide) uHnds cHandler (by rw [show Tryd.prog.bytesOf 46 = 32 by kernel_rfl]; decide) (fun _ _ _ h hs => hnd_of h hs) h hs
theorem bys_of (h : DataW.trod enc Tryd.prog W 0 (fun _ => true) true fuel 30 cs = some x) (hs : Sz Tryd.prog 30 x.1) : ∃ v xs, cs = [v] ∧ LRep u8R W (S0 W) v xs ∧ ∀ y ∈ xs, noFine y := by
  obtain ⟨A, n, c, css, m, hcs, hn, hcap, hm, hr, hw, he⟩ := trod_elemsW uBys h
  rw [cellU8] at hr
  have each : ∀ (i : Nat) cs, css[i]? = some cs → ∃ y : UInt8, u8R W (S0 W) cs y := by
    intro i cs hi
    obtain ⟨y, hy, _⟩ := he i cs hi
    obtain ⟨k, h1, _, hw⟩ := DataW.trod_int uU8 hy
    simp [Lit.wf, IntKind.min, IntKind.max, IntKind.signed, IntKind.bits] at hw
    refine ⟨UInt8.ofNat k.toNat, ?_⟩
    show cs = _
    rw [h1]
    have e : (((UInt8.ofNat k.toNat).toNat : Nat) : Int) = k := by
      show ((k.toNat % 256 : Nat) : Int) = k
      omega
    rw [e]
  obtain ⟨l, hlen, hl⟩ := each_of each
  have hw' := hw hs
  have hb : Tryd.prog.bytesOf 5 = 1 := by kernel_rfl
  rw [hb] at hw'
  have hrb : reachBytes ≤ 140737488355328 := by decide
  have hmap : (css.zip l).map (·.1) = css := by rw [List.map_fst_zip]; omega
  have hmap2 : (css.zip l).map (·.2) = l := by rw [List.map_snd_zip]; omega
  refine ⟨_, l, hcs, ⟨A, c, css.zip l, by rw [hlen, ← hn], hmap2, by omega, hm, by omega, ?_, ?_, ?_⟩, fun _ _ => trivial⟩
  · show Row W A ((css.zip l).map (·.1)).flatten
    rw [hmap]
    exact row_of_rows2 hr
  · intro a ha hne
    have hlt : a.block < W.heap.size := by
      refine (row_of_rows2 hr).lt ?_ ha
      intro e
      have h0 : 0 < css.length := by
        refine Nat.pos_of_ne_zero fun h0 => hne ?_
        rw [List.length_eq_zero_iff.1 h0]
        rfl
      have h1 := hr 0 _ (List.getElem?_eq_getElem h0)
      have h2 : css[0] = [] := by
        have := List.flatten_eq_nil_iff.1 e
        exact this _ (List.getElem_mem h0)
      rw [h2] at h1
      simp at h1
    exact ⟨hlt, by show ¬ W.heap.size ≤ a.block; omega⟩
  · intro t ht
    obtain ⟨i, hi, rfl⟩ := List.getElem_of_mem ht
    have hi1 : i < css.length := by rw [List.length_zip] at hi; omega
    have hi2 : i < l.length := by omega
    obtain ⟨y, hy, hok⟩ := hl i _ (List.getElem?_eq_getElem hi1)
    rw [List.getElem?_eq_getElem hi2] at hy
    cases hy
    rw [List.getElem_zip]
    exact hok
theorem cod_of (h : DataW.trod enc Tryd.prog W 0 (fun _ => true) true fuel 34 cs = some x) (hs : Sz Tryd.prog 34 x.1) : ∃ y : Cod, codR W (S0 W) cs y ∧ noFine y := by
  obtain ⟨hl, n', hf'⟩ := trod_fieldsW sCode (by simp) h
  rw [cCode] at hl
  obtain ⟨_, y0, s0⟩ := hf' 0 _ _ rfl
  obtain ⟨z0, g0, b0⟩ := field_int uInt cellInt y0
  obtain ⟨_, y1, s1⟩ := hf' 1 _ _ rfl
  obtain ⟨z1, g1, b1⟩ := field_int uInt cellInt y1
  obtain ⟨_, y2, s2⟩ := hf' 2 _ _ rfl
  obtain ⟨v2, k2, g2, hv2, hf2⟩ := bys_of y2 (s2 hs)
  rw [lBys] at g2
  obtain ⟨_, y3, s3⟩ := hf' 3 _ _ rfl
  obtain ⟨v3, k3, g3, hv3, hf3⟩ := hnds_of y3 (s3 hs)
  rw [lHnds] at g3
  obtain ⟨_, y4, s4⟩ := hf' 4 _ _ rfl
  obtain ⟨v4, k4, g4, hv4, hf4⟩ := mps_of y4 (s4 hs)
  rw [lMps] at g4
  exact ⟨⟨z0, z1, k2, k3, k4⟩, ⟨v2, v3, v4, l5 hl g0 g1 (cell_of_cut g2) (cell_of_cut g3) (cell_of_cut g4), hv2, hv3, hv4⟩, trivial⟩
theorem fld_of (h : DataW.trod enc Tryd.prog W 0 (fun _ => true) true fuel 44 cs = some x) (hs : Sz Tryd.prog 44 x.1) : ∃ y : Fld, fldR W (S0 W) cs y ∧ (fun f : Fld => i64 f.acc) y := by
  obtain ⟨hl, n', hf'⟩ := trod_fieldsW sField (by simp) h
  rw [cField] at hl
  obtain ⟨_, y0, s0⟩ := hf' 0 _ _ rfl
  obtain ⟨z0, g0, b0⟩ := field_int uInt cellInt y0
  obtain ⟨_, y1, s1⟩ := hf' 1 _ _ rfl
  obtain ⟨z1, g1, b1⟩ := field_string uStr cellStr y1
  rw [str_at] at g1
  obtain ⟨_, y2, s2⟩ := hf' 2 _ _ rfl
  obtain ⟨z2, g2, b2⟩ := field_string uStr cellStr y2
  rw [str_at] at g2
  exact ⟨⟨z0, z1.data.toList, z2.data.toList⟩, l3 hl g0 g1 g2, wf64 b0⟩
theorem flds_of (h : DataW.trod enc Tryd.prog W 0 (fun _ => true) true fuel 23 cs = some x) (hs : Sz Tryd.prog 23 x.1) : ∃ v xs, cs = [v] ∧ LRep fldR W (S0 W) v xs ∧ ∀ y ∈ xs, (fun f : Fld => i64 f.acc) y :=
  list_of fldOk (by decide) uFlds cField (by rw [show Tryd.prog.bytesOf 44 = 40 by kernel_rfl]; decide) (fun _ _ _ h hs => fld_of h hs) h hs
theorem l8m {cs : List Value} {a b c d e f g h : Value} (hl : cs.length = 8) (h0 : cs[0]? = some a) (h1 : cs[1]? = some b) (h2 : cs[2]? = some c) (h3 : (cs.drop 3).take 5 = [d, e, f, g, h]) : cs = [a, b, c, d, e, f, g, h] := by
  match cs, hl with
  | [x0, x1, x2, x3, x4, x5, x6, x7], _ => simp_all
theorem mth_of (h : DataW.trod enc Tryd.prog W 0 (fun _ => true) true fuel 36 cs = some x) (hs : Sz Tryd.prog 36 x.1) : ∃ y : Mth, mthR W (S0 W) cs y ∧ (fun m : Mth => i64 m.acc) y := by
  obtain ⟨hl, n', hf'⟩ := trod_fieldsW sMethod (by simp) h
  rw [cMethod] at hl
  obtain ⟨_, y0, s0⟩ := hf' 0 _ _ rfl
  obtain ⟨_, y1, s1⟩ := hf' 1 _ _ rfl
  obtain ⟨_, y2, s2⟩ := hf' 2 _ _ rfl
  obtain ⟨_, y3, s3⟩ := hf' 3 _ _ rfl
  obtain ⟨z0, g0, b0⟩ := field_int uInt cellInt y0
  obtain ⟨z1, g1, b1⟩ := field_string uStr cellStr y1
  obtain ⟨z2, g2, b2⟩ := field_string uStr cellStr y2
  rw [str_at] at g1 g2
  obtain ⟨c, ⟨v1, v2, v3, e, hv1, hv2, hv3⟩, _⟩ := cod_of y3 (s3 hs)
  rw [cCode] at e
  exact ⟨⟨z0, z1.data.toList, z2.data.toList, c⟩, ⟨v1, v2, v3, l8m hl g0 g1 g2 e, hv1, hv2, hv3⟩, wf64 b0⟩
theorem mths_of (h : DataW.trod enc Tryd.prog W 0 (fun _ => true) true fuel 24 cs = some x) (hs : Sz Tryd.prog 24 x.1) : ∃ v xs, cs = [v] ∧ LRep mthR W (S0 W) v xs ∧ ∀ y ∈ xs, (fun m : Mth => i64 m.acc) y :=
  list_of mthOk (by decide) uMths cMethod (by rw [show Tryd.prog.bytesOf 36 = 128 by kernel_rfl]; decide) (fun _ _ _ h hs => mth_of h hs) h hs
theorem cls_of (h : DataW.trod enc Tryd.prog W 0 (fun _ => true) true fuel 26 cs = some x) (hs : Sz Tryd.prog 26 x.1) : ∃ y : Cls, clsR W (S0 W) cs y ∧ fCls y := by
  obtain ⟨hl, n', hf'⟩ := trod_fieldsW sClass (by simp) h
  rw [cClass] at hl
  obtain ⟨_, y0, s0⟩ := hf' 0 _ _ rfl
  obtain ⟨v0, k0, g0, hv0, hf0⟩ := ents_of y0 (s0 hs)
  rw [lEnts] at g0
  obtain ⟨_, y1, s1⟩ := hf' 1 _ _ rfl
  obtain ⟨z1, g1, b1⟩ := field_string uStr cellStr y1
  rw [str_at] at g1
  obtain ⟨_, y2, s2⟩ := hf' 2 _ _ rfl
  obtain ⟨z2, g2, b2⟩ := field_string uStr cellStr y2
  rw [str_at] at g2
  obtain ⟨_, y3, s3⟩ := hf' 3 _ _ rfl
  obtain ⟨v3, k3, g3, hv3, hf3⟩ := flds_of y3 (s3 hs)
  rw [lFlds] at g3
  obtain ⟨_, y4, s4⟩ := hf' 4 _ _ rfl
  obtain ⟨v4, k4, g4, hv4, hf4⟩ := mths_of y4 (s4 hs)
  rw [lMths] at g4
  exact ⟨⟨k0, z1.data.toList, z2.data.toList, k3, k4⟩, ⟨v0, v3, v4, l5 hl (cell_of_cut g0) g1 g2 (cell_of_cut g3) (cell_of_cut g4), hv0, hv3, hv4⟩, hf0, hf3, hf4⟩
end
theorem open_cls {H : Type} {enc : TypeId × Value → H} {r : Reach} {b0 : Nat} {v : Value} {d : DataW H} {ps : List MemPlace} {W : World}
    (hval : Value.okWide Tryd.prog W r b0 26 v) (hd : DataW.Trod enc Tryd.prog W 0 (fun _ => true) true 26 v d ps) (hsz : Sz Tryd.prog 26 d) :
    ∃ cs m, v = .agg (List.toArray cs) ∧ clsR W (S0 W) cs m ∧ fCls m := by
  obtain ⟨cs, rfl⟩ := okWide_agg (show isStructB Tryd.prog 26 = true by kernel_rfl) hval
  obtain ⟨fuel, hf⟩ := hd
  obtain ⟨m, hm, ho⟩ := cls_of hf hsz
  have e1 : (Value.agg cs).cells = cs := rfl
  rw [e1] at hm
  exact ⟨cs.toList, m, rfl, hm, ho⟩
theorem open_str {H : Type} {enc : TypeId × Value → H} {r : Reach} {b0 : Nat} {v : Value} {d : DataW H} {ps : List MemPlace} {W : World}
    (hval : Value.okWide Tryd.prog W r b0 9 v) (hd : DataW.Trod enc Tryd.prog W 0 (fun _ => true) true 9 v d ps) : ∃ s : List UInt8, v = strV s := by
  obtain ⟨s, rfl⟩ := okWide_string uStr hval
  exact ⟨s.data.toList, str_at⟩
theorem Kt.lt {w : World} (h : Kt w) : 0 < w.heap.size := World.block_lt_of_cell? w _ (h 0 (by decide) (by decide))
end Go.Proofs.YtdcaafldnbcdkaaDoor.Class

/-! ### KLight -/
namespace Go.Proofs.YtdcaafldnbcdkaaDoor.Class
open Go Go.Proofs.YtdcaafldnbcdkaaDoor Go.Proofs.YtdcaafldnbcdkaaDoor.Eng Go.Proofs Go.Proofs.YtdcaafldnbcdkaaDoor.Word Go.Proofs.YtdcaafldnbcdkaaDoor.Fmt
open Go.Proofs.YtdcaafldnbcdkaaDoor.Pool (Ent at_ poolF strV entC entV EntOk Pl OkPool both own_low tagAt)
set_option maxRecDepth 10000

def wMp (p : Mp) : Nat := 1 + p.locals.length + p.stack.length
def wMth (m : Mth) : Nat := m.code.bytes.length + m.code.hands.length + csum wMp m.code.maps
def weigh (c : Cls) : Nat := c.pool.length + c.fields.length + c.methods.length + csum wMth c.methods
theorem csum_bound {α : Type} (f g : α → Nat) (k d : Nat) (h : ∀ x, f x ≤ d + k * g x) : ∀ l : List α, csum f l ≤ d * l.length + k * csum g l
  | [] => by simp [csum]
  | x :: l => by
    have h1 := csum_bound f g k d h l
    have h2 := h x
    rw [csum_cons, csum_cons, List.length_cons, Nat.mul_add, Nat.mul_add]
    omega
theorem cost_weigh (c : Cls) : cCls c ≤ 34 * weigh c := by
  have h1 := csum_const (f := cFld) (n := 8) (fun _ => rfl) c.fields
  have h2 := csum_bound cMth wMth 8 34 (fun m => by
    have h3 := csum_bound cMp wMp 7 0 (fun p => by unfold cMp wMp; omega) m.code.maps
    have h4 := csum_const (f := cHnd) (n := 8) (fun _ => rfl) m.code.hands
    unfold cMth cCod wMth
    omega) c.methods
  unfold cCls weigh
  omega
/-- How far one has counted. -/
def Far (q : Int) (n : Nat) : Prop := 0 ≤ q ∧ q ≤ 1125899906842624 ∧ (5000 ≤ q ∨ (n : Int) ≤ q)
theorem Far.add {q : Int} {n k : Nat} (h : Far q n) (hq : q < 5000) (hk : k ≤ 562949953421312) : Far (q + k) (n + k) := by
  obtain ⟨a, b, c⟩ := h
  refine ⟨by omega, by omega, ?_⟩
  rcases c with c | c
  · omega
  · exact .inr (by omega)
theorem Far.over {q : Int} {n : Nat} (h : Far q n) (hq : 5000 ≤ q) (k : Nat) : Far q k := ⟨h.1, h.2.1, .inl hq⟩
theorem light_ok (cs0 : List Value) (c : Cls) (S : Nat → Prop) (w : World) (hx : clsR w S cs0 c) :
    Calls Tryd.prog 10 #[.agg cs0.toArray] w fun e w' => ∃ b, e = .returned (.bool b) ∧ (b = true → cCls c ≤ 170000 ∧ weigh c < 5000) ∧ New w w' := by
  have hx0 := hx
  obtain ⟨_, _, _, rfl, lp, lf, lm⟩ := hx
  obtain ⟨A, q0, rfl, bp, _⟩ := lp.get entOk (by decide)
  obtain ⟨Af, cf, rfl, bf, _⟩ := lf.get fldOk (by decide)
  have lm0 := lm
  obtain ⟨Am, cm, rfl, bm, _⟩ := lm.get mthOk (by decide)
  refine enter ok Tryd.func10 rfl rfl rfl ?_
  refine seq_cut (σ := Unit) (fun _ => [(1, .pointer (some ⟨w.heap.size, 0, none⟩))]) (fun _ w' => New w w' ∧ w'.heap[w.heap.size]? = some (.cells #[.slice A c.pool.length q0, strV c.name, strV c.super, .slice Af c.fields.length cf, .slice Am c.methods.length cm] 26 (0, 0))) ?_ ?_
  rotate_left
  · intro K hK
    exact hK () _ _ ⟨rfl, trivial⟩ ⟨New.alloc w _, heap_alloc_new w (.cells #[.slice A c.pool.length q0, strV c.name, strV c.super, .slice Af c.fields.length cf, .slice Am c.methods.length cm] 26)⟩
  rintro _ w1 fr1 ⟨n1, hM⟩
  obtain ⟨X, hX⟩ : ∃ X, X = w.heap.size := ⟨_, rfl⟩
  rw [← hX] at hM ⊢
  refine seq_cut (σ := Int) (fun s => [(1, .pointer (some ⟨X, 0, none⟩)), (3, zi s)]) (fun q w' => w' = w1 ∧ Far q (c.pool.length + c.fields.length + c.methods.length)) ?_ ?_
  rotate_left
  · intro K hK
    refine Exists.intro A (Exists.intro c.pool.length (Exists.intro q0 (And.intro (cellB hM rfl) ?_)))
    refine Exists.intro Af (Exists.intro c.fields.length (Exists.intro cf (And.intro (cellB hM rfl) ?_)))
    refine Exists.intro Am (Exists.intro c.methods.length (Exists.intro cm (And.intro (cellB hM rfl) ?_)))
    refine hK ((c.pool.length + c.fields.length + c.methods.length : Nat) : Int) _ _ ⟨rfl, ?_, trivial⟩ ⟨rfl, by omega, by omega, .inr (Int.le_refl _)⟩
    show zi (IntKind.i64.wrap (IntKind.i64.wrap ((c.pool.length : Int) + c.fields.length) + c.methods.length)) = _
    rw [wrap_i64 (n := (c.pool.length : Int) + c.fields.length) (by omega) (by omega), wrap_i64 (by omega) (by omega)]
    rfl
  rintro q1 wy fry ⟨hwy, far1⟩
  obtain rfl := hwy.symm
  generalize hN : c.pool.length + c.fields.length + c.methods.length = N at far1
  refine seq_cut (σ := Int) (fun s => [(1, .pointer (some ⟨X, 0, none⟩)), (3, zi s)]) (fun q w' => New w w' ∧ Far q (N + csum wMth c.methods)) ?_ ?_
  · rintro q wf frf ⟨nf, farf⟩
    refine ⟨_, rfl, fun hb => ?_, nf⟩
    have h3 := of_decide_eq_true hb
    have := cost_weigh c
    have hwe : weigh c = N + csum wMth c.methods := by rw [← hN]; rfl
    obtain ⟨_, _, h⟩ := farf
    omega
  intro K hK
  refine seq_assign ?_
  refine den_loop (σ := Int × Nat) (fun s => [(1, .pointer (some ⟨X, 0, none⟩)), (3, zi s.1), (4, zi (s.2 : Int))]) (fun f s wl => f + s.2 = c.methods.length ∧ New w wl ∧ wl.heap[X]? = some (.cells #[.slice A c.pool.length q0, strV c.name, strV c.super, .slice Af c.fields.length cf, .slice Am c.methods.length cm] 26 (0, 0)) ∧ Far s.1 (N + csum wMth (c.methods.take s.2))) c.methods.length (q1, 0)
    ⟨rfl, rfl, rfl, trivial⟩ ⟨rfl, n1, hM, by simpa [csum] using far1⟩ ?_
  rintro f ⟨q, i⟩ wl frl ⟨hfuel, nl, hMl, far⟩
  dsimp only at hfuel far
  refine seq_cut (σ := Unit) (fun _ => [(1, .pointer (some ⟨X, 0, none⟩)), (3, zi q), (4, zi (i : Int))]) (fun _ w' => w' = wl ∧ i < c.methods.length ∧ q < 5000) ?_ ?_
  rotate_left
  · intro K2 hK2
    refine Exists.intro Am (Exists.intro c.methods.length (Exists.intro cm (And.intro (cellB hMl rfl) ?_)))
    refine if_p (fun hlt => ?_) (fun hge => ?_)
    · replace hlt : (i : Int) < (c.methods.length : Int) := hlt
      refine if_p (fun h5 => ?_) (fun h5 => ?_)
      · exact hK2 () _ _ ⟨rfl, rfl, rfl, trivial⟩ ⟨rfl, by omega, h5⟩
      · replace h5 : ¬ q < 5000 := h5
        exact hK q _ _ ⟨rfl, rfl, trivial⟩ ⟨nl, far.over (by omega) _⟩
    · replace hge : ¬ (i : Int) < (c.methods.length : Int) := hge
      rw [List.take_of_length_le (by omega)] at far
      exact hK q _ _ ⟨rfl, rfl, trivial⟩ ⟨nl, far⟩
  rintro _ wz frz ⟨hwz, hi, h5⟩
  obtain rfl := hwz.symm
  have hlt : (i : Int) < (c.methods.length : Int) := by omega
  obtain ⟨f, rfl⟩ : ∃ f', f = f' + 1 := ⟨f - 1, by omega⟩
  have inc : Value.int .i64 (IntKind.i64.wrap ((i : Int) + 1)) = .int .i64 ((i + 1 : Nat) : Int) := incN hi bm
  obtain ⟨_, _, he, _, gx⟩ := (LRep.mod mthOk (by decide) lm0 (nl.mod.mono fun _ _ e => False.elim e)).get mthOk (by decide)
  cases he
  obtain ⟨a, cs, ea, hy, hc⟩ := gx i hi
  have hnext : N + csum wMth (c.methods.take (i + 1)) = N + csum wMth (c.methods.take i) + wMth c.methods[i] := by
    rw [List.take_succ_eq_append_getElem hi, csum_snoc]
    omega
  generalize hyy : c.methods[i] = y at hy hnext
  obtain ⟨_, _, _, rfl, lb, lh, lq⟩ := hy
  obtain ⟨Ab, cb, rfl, bb, _⟩ := lb.get u8Ok (by decide)
  obtain ⟨Ah, ch, rfl, bh, _⟩ := lh.get hndOk (by decide)
  have lq0 := lq
  obtain ⟨Ap, cp, rfl, bq, _⟩ := lq.get mpOk (by decide)
  refine seq_cut (σ := Int) (fun s => [(1, .pointer (some ⟨X, 0, none⟩)), (3, zi s), (4, zi (i : Int))]) (fun q' w' => New wl w' ∧ Far q' (N + csum wMth (c.methods.take (i + 1)))) ?_ ?_
  · rintro q' wx frx ⟨nx, far'⟩
    exact ⟨f, (q', i + 1), by omega, ⟨rfl, rfl, inc, trivial⟩, by dsimp only; omega, nl.trans nx, nx.blk hMl, far'⟩
  intro K3 hK3
  refine block_ ?_
  refine seq_cut (σ := Nat) (fun E => [(1, .pointer (some ⟨X, 0, none⟩)), (3, zi q), (4, zi (i : Int)), (5, .pointer (some ⟨E, 0, none⟩))]) (fun E w' => New wl w' ∧ w'.heap[E]? = some (.cells #[zi y.code.stack, zi y.code.locals, .slice Ab y.code.bytes.length cb, .slice Ah y.code.hands.length ch, .slice Ap y.code.maps.length cp] 34 (0, 0))) ?_ ?_
  rotate_left
  · intro K4 hK4
    refine Exists.intro Am (Exists.intro c.methods.length (Exists.intro cm (And.intro (cellB hMl rfl) ?_)))
    refine And.intro (by omega) (And.intro hlt ?_)
    refine some_at ea ?_
    refine loadN_row (vs := [zi y.code.stack, zi y.code.locals, .slice Ab y.code.bytes.length cb, .slice Ah y.code.hands.length ch, .slice Ap y.code.maps.length cp]) (fun j u hu => by
      rw [Int.toNat_natCast]
      show wl.cell? (((a.add (i * 8)).add 3).add j) = some u
      rw [add_add_ _ 3 j]
      have h8 : ([zi y.acc, strV y.name, strV y.typ] ++ [zi y.code.stack, zi y.code.locals, .slice Ab y.code.bytes.length cb, .slice Ah y.code.hands.length ch, .slice Ap y.code.maps.length cp])[3 + j]? = some u := by
        rw [List.getElem?_append_right (show 3 ≤ 3 + j by omega)]
        show [zi y.code.stack, zi y.code.locals, .slice Ab y.code.bytes.length cb, .slice Ah y.code.hands.length ch, .slice Ap y.code.maps.length cp][3 + j - 3]? = _
        rw [Nat.add_sub_cancel_left]
        exact hu
      exact hc (3 + j) u h8) rfl ?_
    refine And.intro rfl ?_
    refine storeNew (vs := [zi y.code.stack, zi y.code.locals, .slice Ab y.code.bytes.length cb, .slice Ah y.code.hands.length ch, .slice Ap y.code.maps.length cp]) (arr := #[zi 0, zi 0, .slice none 0 0, .slice none 0 0, .slice none 0 0]) rfl (codOk.one (w := wl) (S := S) (x := y.code) ⟨_, _, _, rfl, lb, lh, lq0⟩) ?_
    intro w5 hb5 n5 s5
    exact hK4 wl.heap.size _ _ ⟨rfl, rfl, rfl, rfl, trivial⟩ ⟨n5, hb5⟩
  rintro E w5 fr5 ⟨n5, hE⟩
  have hM5 := n5.blk hMl
  have nl5 := nl.trans n5
  refine seq_cut (σ := Int) (fun s => [(1, .pointer (some ⟨X, 0, none⟩)), (3, zi s), (4, zi (i : Int)), (5, .pointer (some ⟨E, 0, none⟩))]) (fun q' w' => w' = w5 ∧ Far q' (N + csum wMth (c.methods.take i) + (y.code.bytes.length + y.code.hands.length))) ?_ ?_
  rotate_left
  · intro K4 hK4
    refine Exists.intro Ab (Exists.intro y.code.bytes.length (Exists.intro cb (And.intro (cellB hE rfl) ?_)))
    refine Exists.intro Ah (Exists.intro y.code.hands.length (Exists.intro ch (And.intro (cellB hE rfl) ?_)))
    have hq := far.1
    refine hK4 (q + ((y.code.bytes.length + y.code.hands.length : Nat) : Int)) _ _ ⟨rfl, ?_, rfl, rfl, trivial⟩ ⟨rfl, far.add h5 (by omega)⟩
    show zi (IntKind.i64.wrap (q + IntKind.i64.wrap ((y.code.bytes.length : Int) + y.code.hands.length))) = _
    rw [wrap_i64 (n := (y.code.bytes.length : Int) + y.code.hands.length) (by omega) (by omega), wrap_i64 (by omega) (by omega)]
    rfl
  rintro q6 wz6 frz6 ⟨hwz6, far6⟩
  obtain rfl := hwz6.symm
  have lq5 := LRep.mod mpOk (by decide) lq0 (n5.mod.mono fun _ _ e => False.elim e)
  refine seq_assign ?_
  refine den_loop (σ := Int × Nat) (fun s => [(1, .pointer (some ⟨X, 0, none⟩)), (3, zi s.1), (4, zi (i : Int)), (5, .pointer (some ⟨E, 0, none⟩)), (6, zi (s.2 : Int))]) (fun g s wk => g + s.2 = y.code.maps.length ∧ New w5 wk ∧ Far s.1 (N + csum wMth (c.methods.take i) + (y.code.bytes.length + y.code.hands.length) + csum wMp (y.code.maps.take s.2))) y.code.maps.length (q6, 0)
    ⟨rfl, rfl, rfl, rfl, rfl, trivial⟩ ⟨rfl, New.refl _, by simpa [csum] using far6⟩ ?_
  rintro g ⟨q7, k⟩ wk frk ⟨hfuel2, nk, far7⟩
  dsimp only at hfuel2 far7
  have hEk := nk.blk hE
  refine Exists.intro Ap (Exists.intro y.code.maps.length (Exists.intro cp (And.intro (cellB hEk rfl) ?_)))
  refine if_p (fun hltk => ?_) (fun hgek => ?_)
  · replace hltk : (k : Int) < (y.code.maps.length : Int) := hltk
    have hk : k < y.code.maps.length := by omega
    obtain ⟨g, rfl⟩ : ∃ g', g = g' + 1 := ⟨g - 1, by omega⟩
    refine if_p (fun h6 => ?_) (fun h6 => ?_)
    · replace h6 : q7 < 5000 := h6
      obtain ⟨_, _, he, _, gz⟩ := (LRep.mod mpOk (by decide) lq5 (nk.mod.mono fun _ _ e => False.elim e)).get mpOk (by decide)
      cases he
      obtain ⟨a2, cs2, ea2, hz, hc2⟩ := gz k hk
      have hznext : csum wMp (y.code.maps.take (k + 1)) = csum wMp (y.code.maps.take k) + wMp y.code.maps[k] := by
        rw [List.take_succ_eq_append_getElem hk, csum_snoc]
      generalize y.code.maps[k] = z at hz hznext
      obtain ⟨_, _, rfl, lv, lu⟩ := hz
      obtain ⟨D, d, rfl, bd, _⟩ := lv.get tyOk (by decide)
      obtain ⟨F', e', rfl, be, _⟩ := lu.get tyOk (by decide)
      refine draw_ (w := wk) ok (.q 0 (.q 1 (.q 2 (.q 3 (.q 4 (.q 5 (.q 6 (.q 7 (.q 8 (.q 9 (.q 10 (.q 11 (.q 12 (.q 13 (.q 14 (.q 15 (.q 16 (.q 17 (.q 18 .done))))))))))))))))))) [18] (New wk) (by kernel_rfl) (by kernel_rfl) (by kernel_rfl) (by kernel_rfl) (by kernel_rfl) (New.drew _) ?_
      refine Exists.intro Ap (Exists.intro y.code.maps.length (Exists.intro cp (And.intro (fun w'' hw => cellB (hw.blk hEk) rfl) ?_)))
      refine And.intro (by omega) (And.intro hltk ?_)
      refine some_at ea2 ?_
      refine Exists.intro D (Exists.intro z.locals.length (Exists.intro d (And.intro (fun w'' hw => by rw [Int.toNat_natCast]; exact hw.cell (hc2 1 _ rfl)) ?_)))
      refine Exists.intro Ap (Exists.intro y.code.maps.length (Exists.intro cp (And.intro (fun w'' hw => cellB (hw.blk hEk) rfl) ?_)))
      refine And.intro (by omega) (And.intro hltk ?_)
      refine some_at ea2 ?_
      refine Exists.intro F' (Exists.intro z.stack.length (Exists.intro e' (And.intro (fun w'' hw => by rw [Int.toNat_natCast]; exact hw.cell (hc2 2 _ rfl)) ?_)))
      have far' := far7.add h6 (k := wMp z) (by unfold wMp; omega)
      have hf1 := far7.1
      refine ⟨g, (q7 + (wMp z : Int), k + 1), by omega, ⟨rfl, ?_, rfl, rfl, incN hk bq, trivial⟩, by dsimp only; omega, nk.trans (New.drew _), ?_⟩
      · show zi (IntKind.i64.wrap (q7 + IntKind.i64.wrap (IntKind.i64.wrap (1 + (z.locals.length : Int)) + (z.stack.length : Int)))) = _
        unfold wMp
        rw [wrap_i64 (n := 1 + (z.locals.length : Int)) (by omega) (by omega), wrap_i64 (n := 1 + (z.locals.length : Int) + (z.stack.length : Int)) (by omega) (by omega), wrap_i64 (by omega) (by omega)]
        rfl
      · dsimp only
        rw [hznext, ← Nat.add_assoc]
        exact far'
    · replace h6 : ¬ q7 < 5000 := h6
      exact hK3 q7 _ _ ⟨rfl, rfl, rfl, trivial⟩ ⟨n5.trans nk, far7.over (by omega) _⟩
  · replace hgek : ¬ (k : Int) < (y.code.maps.length : Int) := hgek
    have ek : y.code.maps.take k = y.code.maps := List.take_of_length_le (by omega)
    rw [ek] at far7
    refine hK3 q7 _ _ ⟨rfl, rfl, rfl, trivial⟩ ⟨n5.trans nk, ?_⟩
    rw [hnext]
    have : N + csum wMth (c.methods.take i) + wMth y = N + csum wMth (c.methods.take i) + (y.code.bytes.length + y.code.hands.length) + csum wMp y.code.maps := by unfold wMth; omega
    rw [this]
    exact far7

end Go.Proofs.YtdcaafldnbcdkaaDoor.Class

/-! ### KLaw -/
namespace Go.Proofs.YtdcaafldnbcdkaaDoor.Class
open Go Go.Proofs.YtdcaafldnbcdkaaDoor Go.Proofs.YtdcaafldnbcdkaaDoor.Eng Go.Proofs Go.Proofs.YtdcaafldnbcdkaaDoor.Word Go.Proofs.YtdcaafldnbcdkaaDoor.Fmt
open Go.Proofs.YtdcaafldnbcdkaaDoor.Pool (Ent at_ poolF strV entC entV EntOk Pl OkPool both own_low tagAt)
set_option maxRecDepth 10000

theorem Among_ok (x n : Int) (w : World) (hn : 1 ≤ n ∧ n ≤ 9223372036854775807) : Calls Tryd.prog 18 #[.int .i64 x, .int .i64 n] w fun e w' => ∃ k : Nat, e = .returned (.int .i64 (k : Int)) ∧ (k : Int) < n ∧ w' = w := by
  refine enter ok Tryd.func18 rfl rfl rfl ?_
  refine if_p (fun h => absurd h (by omega)) (fun _ => ?_)
  have e1 : IntKind.u64.wrap n = n := by rw [wrap_u64]; omega
  refine And.intro (show IntKind.u64.wrap n ≠ 0 by rw [e1]; omega) ?_
  have h0 : 0 ≤ IntKind.u64.wrap x := by rw [wrap_u64]; omega
  have h1 : 0 ≤ (IntKind.u64.wrap x).tmod n ∧ (IntKind.u64.wrap x).tmod n < n := ⟨Int.tmod_nonneg _ h0, Int.tmod_lt_of_pos _ (by omega)⟩
  refine ⟨((IntKind.u64.wrap x).tmod n).toNat, ?_, by omega, rfl⟩
  show Ending.returned (.int .i64 (IntKind.i64.wrap ((IntKind.u64.wrap x).tmod (IntKind.u64.wrap n)))) = _
  rw [e1, wrap_i64 (by omega) (by omega), Int.toNat_of_nonneg h1.1]
/-- What is read of bytes, and the fault. -/
def Told (bs : List UInt8) (x : Cls) (er : Int) : Prop := (er = 0 ∧ Is bs x ∧ fCls x ∧ cCls x ≤ 500000000) ∨ (x = cls0 ∧ (∀ y, ¬ Is bs y) ∧ er = if 32768 < bs.length then 3 else 80)
theorem Told.good {bs : List UInt8} {x y : Cls} {er : Int} (h : Told bs x er) (hy : Is bs y) : er = 0 ∧ x = y := by
  rcases h with ⟨h1, h2, _⟩ | ⟨_, h2, _⟩
  · exact ⟨h1, is_one h2 hy⟩
  · exact absurd hy (h2 y)
theorem Told.bad {bs : List UInt8} {x : Cls} {er : Int} (h : Told bs x er) (hn : ∀ y, ¬ Is bs y) : er = (if 32768 < bs.length then 3 else 80) ∧ x = cls0 := by
  rcases h with ⟨_, h2, _⟩ | ⟨h1, _, h3⟩
  · exact absurd h2 (hn x)
  · exact ⟨h3, h1⟩
theorem zero_rep (w : World) (S : Nat → Prop) : clsR w S zeroC cls0 := ⟨_, _, _, rfl, LRep.nil _ _ _ trivial, LRep.nil _ _ _ trivial, LRep.nil _ _ _ trivial⟩
theorem PRes.told {w w' : World} {bs : List UInt8} {e : Ending} (h : PRes w bs e w') : ∃ A1 a1 F1 f1 M1 m1 m er, e = .returned (.tuple #[.agg (List.toArray [.slice A1 m.pool.length a1, strV m.name, strV m.super, .slice F1 m.fields.length f1, .slice M1 m.methods.length m1]), zi er]) ∧ clsR w' (fun b => b < w.heap.size) [.slice A1 m.pool.length a1, strV m.name, strV m.super, .slice F1 m.fields.length f1, .slice M1 m.methods.length m1] m ∧ Told bs m er ∧ New w w' := by
  obtain ⟨n, ⟨cs, x, rfl, hx, h1, h2, h3⟩ | ⟨h1, rfl⟩⟩ := h
  · have hx0 := hx
    obtain ⟨_, _, _, rfl, lp, lf, lm⟩ := hx
    obtain ⟨A1, a1, rfl, _⟩ := lp.get entOk (by decide)
    obtain ⟨F1, f1, rfl, _⟩ := lf.get fldOk (by decide)
    obtain ⟨M1, m1, rfl, _⟩ := lm.get mthOk (by decide)
    exact ⟨_, _, _, _, _, _, x, 0, rfl, hx0, .inl ⟨rfl, h3, h1, h2⟩, n⟩
  · exact ⟨none, 0, none, 0, none, 0, cls0, _, rfl, zero_rep w' _, .inr ⟨rfl, h1, rfl⟩, n⟩

end Go.Proofs.YtdcaafldnbcdkaaDoor.Class

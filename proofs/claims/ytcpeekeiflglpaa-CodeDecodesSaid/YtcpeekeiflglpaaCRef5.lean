/- The document's answer for codes, walked: all instructions. -/
import Derived.Test.YtcpeekeiflglpaaCRef4
import Derived.Test.YtcpeekeiflglpaaCEnc2
namespace Go.Proofs.Ytcpeekeiflglpaa.Code
open Go Go.Proofs.Ytcpeekeiflglpaa Go.Proofs.Ytcpeekeiflglpaa.Eng Go.Proofs Go.Proofs.Ytcpeekeiflglpaa.Word Go.Proofs.Ytcpeekeiflglpaa.Fmt
open Go.Proofs.Ytcpeekeiflglpaa.Pool (both own_low)
set_option maxRecDepth 10000

theorem stKI {w : World} {g j : Nat} {arr : Array Value} {t : TypeId} {v : Value} {K : World → Prop} {i : Nat} (hi : i = j) (hb : w.heap[g]? = some (.cells arr t (0, 0))) (hj : j < arr.size)
    (k : ∀ w', w'.heap[g]? = some (.cells (arr.setIfInBounds j v) t (0, 0)) → Mod (fun b => b = g) w w' → w'.heap.size = w.heap.size → K w') : K (w.setCell ((⟨g, 0, none⟩ : Addr).add i) v) := by
  subst hi
  exact stK hb hj k
theorem ix1 (n : Nat) : ((n : Int).toNat * 1) = n := by rw [Nat.mul_one, Int.toNat_natCast]
theorem ixI {z : Int} {n : Nat} (h : z = n) : z.toNat * 1 = n := by rw [h, ix1]
theorem ivs_cell {w : World} {A : Option Addr} {zs : List Int} (h : Row w A (ivs zs)) {j : Nat} (hj : j < zs.length) : ∃ a, A = some a ∧ w.cell? (a.add ((j : Int).toNat * 1)) = some (.int .i64 zs[j]) := by
  obtain ⟨a, ha, hc⟩ := h j (.int .i64 zs[j]) (by simp [ivs, hj])
  exact ⟨a, ha, by rw [ix1]; exact hc⟩

/-- What the document's reading of all instructions leaves. -/
def DRef (w : World) (r : Option (List Ins)) (e : Ending) (w' : World) : Prop :=
  ∃ ts A c, ts.map (·.1) = r.getD [] ∧ e = .returned (.slice A ts.length c) ∧ Ct w' A ts ∧ ts.length ≤ c ∧ c ≤ 9223372036854775807 ∧ New w w'
theorem dref_none {w w' : World} {r : Option (List Ins)} (h : r = none) (n : New w w') : DRef w r (.returned (.slice none 0 0)) w' := ⟨[], none, 0, by rw [h]; rfl, rfl, ct_nil _ _, Nat.le_refl _, by omega, n⟩
theorem leads_not {l : List Ins} {x : Ins} {z : Int} (hx : x ∈ l) (hz : z ∈ targets x) (h : (l.any fun y => decide (y.p = z)) = false) : leads l = false := by
  cases hl : leads l with
  | false => rfl
  | true =>
    unfold leads at hl
    have := List.all_eq_true.1 (List.all_eq_true.1 hl x hx) z hz
    rw [h] at this
    cases this
theorem loop_step {f p j : Nat} {bs : List UInt8} {x : Ins} (hp : p < bs.length) (hj : j ≤ bs.length) (h : (insF p).parse (bs.drop p) = some (x, bs.drop j)) : loopP (f + 1) p (bs.drop p) = (loopP f j (bs.drop j)).map (x :: ·) := by
  have := one_step hj h
  rw [loopP, if_neg (by rw [List.length_drop]; omega), h, Option.bind_some]
  simp only
  rw [List.length_drop, List.length_drop, show p + (bs.length - p - (bs.length - j)) = j by omega]
theorem loop_bad {f p : Nat} {bs : List UInt8} (hp : p < bs.length) (h : (insF p).parse (bs.drop p) = none) : loopP (f + 1) p (bs.drop p) = none := by
  rw [loopP, if_neg (by rw [List.length_drop]; omega), h]
  rfl
theorem loop_end {f : Nat} {bs : List UInt8} : loopP f bs.length (bs.drop bs.length) = some [] := by
  rw [List.drop_length]
  cases f <;> rfl
theorem decoded_ok (A : Option Addr) (n c : Nat) (bs : List UInt8) (w : World) (hn : n = bs.length) (hr : Row w A (bvs bs)) (hc : bs.length ≤ c) (ht : c ≤ 9223372036854775807) (hm : bs.length ≤ 1000000000) :
    Calls Try.prog 50 #[.slice A n c] w (DRef w ((loopP bs.length 0 bs).bind fun l => if leads l = true then some l else none)) := by
  subst hn
  refine enter ok Try.func50 rfl rfl rfl ?_
  have hlow : ∀ a, A = some a → bs ≠ [] → a.block < w.heap.size := Word.row_low hr
  refine seq_cut (σ := Unit) (fun _ => [(0, .slice A bs.length c)]) (fun _ w' => w' = w) ?_ ?_
  rotate_left
  · intro K hK
    exact hK () _ _ ⟨rfl, trivial⟩ rfl
  rintro _ _ fr0 rfl
  rename_i w
  refine seq_cut (σ := Unit) (fun _ => [(0, .slice A bs.length c), (3, .slice (some ⟨w.heap.size, 0, none⟩) 0 0)]) (fun _ w' => New w w' ∧ w'.heap.size = w.heap.size + 1 ∧ w'.ownsRow w.heap.size 62 5 (.slice (some ⟨w.heap.size, 0, none⟩) 0 0) 0 []) ?_ ?_
  rotate_left
  · intro K hK
    exact hK () _ _ ⟨rfl, rfl, trivial⟩ ⟨New.alloc w _, by simp, own_lit w [] 62 5 0 w.heap.size (Nat.le_refl _) rfl (by omega)⟩
  rintro _ w1 fr1 ⟨n1, z1, own1⟩
  refine seq_cut (σ := Unit) (fun _ => [(0, .slice A bs.length c), (3, .slice (some ⟨w.heap.size, 0, none⟩) 0 0), (4, .slice (some ⟨w.heap.size + 1, 0, none⟩) bs.length bs.length)])
    (fun _ w' => New w w' ∧ w.heap.size + 2 ≤ w'.heap.size ∧ w'.ownsRow w.heap.size 62 5 (.slice (some ⟨w.heap.size, 0, none⟩) 0 0) 0 [] ∧ ∃ arr, w'.heap[w.heap.size + 1]? = some (.cells arr 4 (0, 0)) ∧ arr.size = bs.length ∧ ∀ j, j < bs.length → arr[j]? = some (.bool false)) ?_ ?_
  rotate_left
  · intro K hK
    refine make_g ok rfl rfl rfl rfl (n := bs.length) rfl rfl (by show 1 * bs.length ≤ _; omega) (by omega) rfl (by decide) ?_
    intro w2 arr hb2 hs2 ha2 n2
    have hlt : w1.heap.size < w2.heap.size := (Array.getElem?_eq_some_iff.1 hb2).1
    rw [z1] at hb2
    refine hK () _ _ ⟨rfl, rfl, (show Value.slice (some ⟨w1.heap.size, 0, none⟩) bs.length bs.length = _ by rw [z1]), trivial⟩ ⟨n1.trans n2, by omega, own_new n2 own1, arr, hb2, by rw [hs2]; exact Nat.mul_one _, fun j hj => ?_⟩
    rw [ha2 j (by show j < bs.length * 1; omega)]
    show ([Value.bool false])[j % 1]? = _
    rw [Nat.mod_one]
    rfl
  rintro _ w2 fr2 ⟨n2, z2, own2, arr2, hB2, hs2, ha2⟩
  obtain ⟨B, hB⟩ : ∃ B, B = w.heap.size + 1 := ⟨_, rfl⟩
  rw [← hB] at hB2 ⊢
  have hown2 : ∀ b, (Value.slice (some ⟨w.heap.size, 0, none⟩) 0 0).ownBlock = some b → b ≠ B := fun b e => by
    cases e
    show w.heap.size ≠ B
    omega
  -- one behind the other
  refine seq_cut (σ := (Option Addr × Nat) × List It) (fun t => [(0, .slice A bs.length c), (3, .slice t.1.1 t.2.length t.1.2), (4, .slice (some ⟨B, 0, none⟩) bs.length bs.length)])
    (fun t w' => loopP bs.length 0 bs = some (t.2.map (·.1)) ∧ New w w' ∧ Ct w' t.1.1 t.2 ∧ t.2.length ≤ 1000000000 ∧ t.2.length ≤ t.1.2 ∧ t.1.2 ≤ 9223372036854775807 ∧ (∀ x ∈ t.2, 0 ≤ x.1.p ∧ x.1.p < bs.length) ∧
      ∃ arr, w'.heap[B]? = some (.cells arr 4 (0, 0)) ∧ arr.size = bs.length ∧ ∀ j : Nat, j < bs.length → arr[j]? = some (.bool (t.2.any fun y => decide (y.1.p = (j : Int))))) ?_ ?_
  rotate_left
  · intro K hK
    refine seq_assign ?_
    refine den_loop (σ := (Option Addr × Nat) × List It × Nat) (fun t => [(0, .slice A bs.length c), (3, .slice t.1.1 t.2.1.length t.1.2), (4, .slice (some ⟨B, 0, none⟩) bs.length bs.length), (5, .int .i64 (t.2.2 : Int))])
      (fun m t wl => m + t.2.2 = bs.length ∧ (∃ f, bs.length ≤ f + t.2.2 ∧ loopP bs.length 0 bs = (loopP f t.2.2 (bs.drop t.2.2)).map (t.2.1.map (·.1) ++ ·)) ∧ t.2.1.length ≤ t.2.2 ∧ New w wl ∧ w.heap.size + 2 ≤ wl.heap.size ∧ wl.ownsRow w.heap.size 62 5 (.slice t.1.1 t.2.1.length t.1.2) t.2.1.length (itF t.2.1) ∧
        (∀ b, (Value.slice t.1.1 t.2.1.length t.1.2).ownBlock = some b → b ≠ B) ∧
        (∀ x ∈ t.2.1, (CsV wl x.2 x.1.cs ∧ Off (fun b => b = B ∨ some b = (Value.slice t.1.1 t.2.1.length t.1.2).ownBlock) x.2) ∧ 0 ≤ x.1.p ∧ x.1.p < bs.length) ∧
        ∃ arr, wl.heap[B]? = some (.cells arr 4 (0, 0)) ∧ arr.size = bs.length ∧ ∀ j : Nat, j < bs.length → arr[j]? = some (.bool (t.2.1.any fun y => decide (y.1.p = (j : Int))))) bs.length ((some ⟨w.heap.size, 0, none⟩, 0), [], 0)
      ⟨rfl, rfl, rfl, rfl, trivial⟩ ⟨rfl, ⟨bs.length, Nat.le_refl _, by simp⟩, Nat.le_refl _, n2, z2, own2, hown2, fun _ h => (by cases h), arr2, hB2, hs2, ha2⟩ ?_
    rintro m ⟨⟨Al, cl⟩, ts, i⟩ wl frl ⟨hfuel, ⟨f, hf, hloop⟩, hlen, kl, zl, own, hownB, hts, arr, hBl, hsl, hal⟩
    dsimp only at hfuel hloop hf hlen own hownB hts hal
    have hown := fun b (e : (Value.slice Al ts.length cl).ownBlock = some b) => own.lt b e
    refine if_p (fun hlt => ?_) (fun hge => ?_)
    · replace hlt : (i : Int) < (bs.length : Int) := hlt
      have hi : i < bs.length := by omega
      obtain ⟨f, rfl⟩ : ∃ f', f = f' + 1 := ⟨f - 1, by omega⟩
      refine call_ (rone_ok A bs.length c bs i wl rfl (hr.new kl) hc ht hi (by omega)) ?_
      rintro e w3 ⟨hout, n3⟩
      cases hpar : (insF i).parse (bs.drop i) with
      | none =>
        rw [hpar] at hout
        obtain ⟨y, v, z, hv, rfl⟩ := hout
        refine ⟨_, rfl, ?_⟩
        refine And.intro rfl ?_
        refine storeNew (vs := insC y v) (arr := (insC ⟨0, 0, 0, 0, []⟩ nilC).toArray) rfl (insC_one _ hv) ?_
        intro w4 hb4 n4 s4
        refine dref_none ?_ ((kl.trans n3).trans n4)
        rw [hloop, loop_bad hi hpar]
        rfl
      | some q =>
        obtain ⟨x, rest⟩ := q
        rw [hpar] at hout
        obtain ⟨v, j, hrest, hj, rfl, own5, hcs⟩ := hout
        dsimp only at hrest own5 hcs
        subst hrest
        refine ⟨_, rfl, ?_⟩
        have hstep := one_step hj hpar
        have hxp : x.p = i := (insF_is ((insF i).bwd _ _ _ hpar).1).1
        rw [loop_step hi hj hpar] at hloop
        refine And.intro rfl ?_
        have cs3 := csV_own own5 (by omega)
        refine storeNew (vs := insC x v) (arr := (insC ⟨0, 0, 0, 0, []⟩ nilC).toArray) rfl (insC_one _ cs3.one) ?_
        intro w4 hb4 n4 s4
        have n34 : New wl w4 := New.trans n3 n4
        have hB4 := n34.blk hBl
        have n3s := n3.size
        have hX : ¬ w3.heap.size = B := by omega
        refine And.intro (by omega) (And.intro hlt ?_)
        refine And.intro ⟨_, cellB hB4 (by rw [ix1]; exact hal i hi)⟩ (And.intro (fzB hB4 _) (force_ ?_))
        refine stKI (ix1 i) hB4 (by omega) ?_
        intro w5 hB5 m5 s5
        have hb5 := m5.blk hb4 hX
        have k5 : New w w5 := Mod.trans (kl.trans n34) m5 fun b hb e => by omega
        have own5' := own_mod m5 (own_new n34 own) (fun b hb e => hownB b hb e)
        have offv : Off (fun b => b = B ∨ some b = (Value.slice Al ts.length cl).ownBlock) v := off_own own5 (fun b hb _ e => by
          rcases e with e | e
          · omega
          · have := hown _ e.symm; omega)
        have cs5 := (cs3.new n4).modN m5 fun a n c e hn hb => offv a n c e hn (.inl hb)
        refine loadN_row (vs := insC x v) (rowB hb5) rfl ?_
        have n6 := New.alloc w5 (.cells (insC x v).toArray 62)
        refine append2_ ok rfl rfl rfl rfl (own_new n6 own5') rfl rfl (row_alloc w5 (insC x v) _ _) rfl (insC_one x cs5.one) (by decide) rfl (by show (ts.length + 1) * 56 ≤ _; omega) (by omega) (Nat.le_trans (by omega) n6.size) ?_
        intro A7 c7 w7 own7 mod7 st7
        rw [← itF_snoc (t := (x, v))] at own7
        have k57 : Mod (fun b => some b = (Value.slice Al ts.length cl).ownBlock) w5 w7 := Mod.trans n6.mod mod7 fun _ _ e => e
        have k7 : New w w7 := Mod.trans k5 k57 fun b hb e => by have := (hown b e.symm).1; omega
        have k57s := k57.size
        have hl : (ts ++ [(x, v)]).length = ts.length + 1 := by simp
        have st : ∀ b, some b = (Value.slice A7 (ts.length + 1) c7).ownBlock → some b = (Value.slice Al ts.length cl).ownBlock ∨ w5.heap.size ≤ b := fun b e => by
          rcases st7 b e.symm with e | e
          · exact .inl e.symm
          · exact .inr (Nat.le_trans n6.size e)
        have hB7 := k57.blk hB5 (fun e => hownB _ e.symm rfl)
        refine ⟨bs.length - j, ((A7, c7), ts ++ [(x, v)], j), by omega, ⟨rfl, (show Value.slice A7 (ts.length + 1) c7 = .slice A7 (ts ++ [(x, v)]).length c7 by rw [hl]), rfl, rfl, trivial⟩, by dsimp only; omega, ⟨f, by dsimp only; omega, ?_⟩, by dsimp only; omega, k7, by omega, ?_, ?_, ?_, _, hB7, by simpa using hsl, ?_⟩
        · rw [hloop, Option.map_map]
          congr 1
          funext l
          simp
        · dsimp only
          rw [hl]
          exact own7
        · intro b hb
          dsimp only at hb
          rw [hl] at hb
          rcases st b hb.symm with h | h
          · exact hownB b h.symm
          · omega
        · intro y hy
          dsimp only
          rw [hl]
          rcases List.mem_append.1 hy with hy | hy
          · obtain ⟨⟨c1, o1⟩, p1⟩ := hts y hy
            refine ⟨⟨((c1.new n34).modN m5 (fun a n c e hn hb => o1 a n c e hn (.inl hb))).modN k57 (fun a n c e hn hb => o1 a n c e hn (.inr hb)), fun a n c e hn hb => ?_⟩, p1⟩
            rcases hb with hb | hb
            · exact o1 a n c e hn (.inl hb)
            · rcases st _ hb with hb | hb
              · exact o1 a n c e hn (.inr hb)
              · have := c1.low e hn
                omega
          · rw [List.mem_singleton.1 hy]
            refine ⟨⟨cs5.modN k57 (fun a n c e hn hb => offv a n c e hn (.inr hb)), fun a n c e hn hb => ?_⟩, by dsimp only; omega, by dsimp only; omega⟩
            rcases hb with hb | hb
            · exact offv a n c e hn (.inl hb)
            · rcases st _ hb with hb | hb
              · exact offv a n c e hn (.inr hb)
              · have := cs5.low e hn
                omega
        · intro k hk
          dsimp only
          rw [Array.getElem?_setIfInBounds, List.any_append]
          by_cases hki : i = k
          · subst hki
            rw [if_pos rfl, if_pos (by omega)]
            show some (Value.bool true) = _
            simp [hxp]
          · rw [if_neg hki, hal k hk]
            have : ¬ x.p = (k : Int) := by omega
            simp [this]
    · replace hge : ¬ (i : Int) < (bs.length : Int) := hge
      obtain rfl : i = bs.length := by omega
      rw [loop_end] at hloop
      obtain ⟨A', c', e', h5, h6, row, ho⟩ := own_slice own
      cases e'
      exact hK ((Al, cl), ts) _ _ ⟨rfl, rfl, rfl, trivial⟩ ⟨by rw [hloop]; simp, kl, ⟨row, fun x hx => (hts x hx).1.1⟩, by dsimp only; omega, h5, h6, fun x hx => (hts x hx).2, arr, hBl, hsl, hal⟩
  rintro ⟨⟨Al, cl⟩, ts⟩ w3 fr3 ⟨hloop, n3, ct3, hlen, hcap, htop, hpos, arr, hB3, hs3, ha3⟩
  dsimp only at hloop ct3 hlen hcap htop hpos ha3
  rw [hloop, Option.bind_some]
  clear hloop
  have hbegin : ∀ z : Int, (z < 0 ∨ (bs.length : Int) ≤ z) → ((ts.map (·.1)).any fun y => decide (y.p = z)) = false := fun z hz => by
    rw [List.any_eq_false]
    intro y hy
    obtain ⟨x, hx, rfl⟩ := List.mem_map.1 hy
    have := hpos x hx
    simp only [decide_eq_true_eq]
    omega
  have hmap : ∀ z : Int, ((ts.map (·.1)).any fun y => decide (y.p = z)) = ts.any fun y => decide (y.1.p = z) := fun z => by
    rw [List.any_map]
    rfl
  -- where they lead
  refine seq_cut (σ := Unit) (fun _ => [(3, .slice Al ts.length cl)]) (fun _ w' => New w3 w' ∧ leads (ts.map (·.1)) = true) ?_ ?_
  · rintro _ w4 fr4 ⟨n4, hl⟩
    exact ⟨ts, Al, cl, by rw [if_pos hl]; rfl, rfl, ct3.new n4, hcap, htop, n3.trans n4⟩
  intro K hK
  refine seq_assign ?_
  refine den_loop (σ := Nat) (fun i => [(0, .slice A bs.length c), (3, .slice Al ts.length cl), (4, .slice (some ⟨B, 0, none⟩) bs.length bs.length), (9, .int .i64 (i : Int))])
    (fun m i wl => m + i = ts.length ∧ New w3 wl ∧ ∀ x ∈ ts.take i, ∀ z ∈ targets x.1, (ts.any fun y => decide (y.1.p = z)) = true) ts.length 0
    ⟨rfl, rfl, rfl, rfl, trivial⟩ ⟨rfl, New.refl _, fun _ h => (by cases h)⟩ ?_
  rintro m i wl frl ⟨hfuel, kl, hgood⟩
  refine if_p (fun hlt => ?_) (fun hge => ?_)
  · replace hlt : (i : Int) < (ts.length : Int) := hlt
    have hi : i < ts.length := by omega
    obtain ⟨m, rfl⟩ : ∃ m', m = m' + 1 := ⟨m - 1, by omega⟩
    have inc : Value.int .i64 (IntKind.i64.wrap ((i : Int) + 1)) = .int .i64 ((i + 1 : Nat) : Int) := by
      rw [wrap_i64 (by omega) (by omega)]
      rfl
    have ctl := ct3.new kl
    obtain ⟨aI, hAe, hcell⟩ := itF_row ctl.row hi
    refine And.intro (by omega) (And.intro hlt ?_)
    refine some_at hAe ?_
    refine loadN_row (vs := insC ts[i].1 ts[i].2) (fun k u hu => by rw [Int.toNat_natCast]; exact hcell k u hu) rfl ?_
    refine call_ (rTargets_ok ts[i].1 ts[i].2 wl (ctl.cs _ (List.getElem_mem hi))) ?_
    rintro e w5 ⟨A5, c5, rfl, row5, hl5, n5⟩
    refine ⟨_, rfl, ?_⟩
    have k5 : New w3 w5 := kl.trans n5
    refine den_loop (σ := Nat) (fun j => [(0, .slice A bs.length c), (3, .slice Al ts.length cl), (4, .slice (some ⟨B, 0, none⟩) bs.length bs.length), (9, .int .i64 (i : Int)), (10, .slice A5 (targets ts[i].1).length c5), (11, .int .i64 (j : Int))])
      (fun m' j w' => m' + j = (targets ts[i].1).length ∧ w' = w5 ∧ ∀ z ∈ (targets ts[i].1).take j, (ts.any fun y => decide (y.1.p = z)) = true) (targets ts[i].1).length 0
      ⟨rfl, rfl, rfl, rfl, rfl, rfl, trivial⟩ ⟨rfl, rfl, fun _ h => (by cases h)⟩ ?_
    rintro m' j w' frj ⟨hfuel', hw', hgood'⟩
    obtain rfl := hw'.symm
    refine if_p (fun hjt => ?_) (fun hjg => ?_)
    · replace hjt : (j : Int) < ((targets ts[i].1).length : Int) := hjt
      have hj : j < (targets ts[i].1).length := by omega
      obtain ⟨m', rfl⟩ : ∃ m'', m' = m'' + 1 := ⟨m' - 1, by omega⟩
      obtain ⟨a5, hA5, hz⟩ := ivs_cell row5 hj
      have hmem : (targets ts[i].1)[j] ∈ targets ts[i].1 := List.getElem_mem hj
      have hsnoc : (targets ts[i].1).take (j + 1) = (targets ts[i].1).take j ++ [(targets ts[i].1)[j]] := List.take_succ_eq_append_getElem hj
      obtain ⟨z, hzz⟩ : ∃ z, z = (targets ts[i].1)[j] := ⟨_, rfl⟩
      rw [← hzz] at hz hmem hsnoc
      have incj : Value.int .i64 (IntKind.i64.wrap ((j : Int) + 1)) = .int .i64 ((j + 1 : Nat) : Int) := by
        rw [wrap_i64 (by omega) (by omega)]
        rfl
      have bad : (ts.any fun y => decide (y.1.p = z)) = false → DRef w (if leads (ts.map (·.1)) = true then some (ts.map (·.1)) else none) (.returned (.slice none 0 0)) w5 := fun hf => by
        refine dref_none ?_ (n3.trans k5)
        rw [if_neg]
        rw [leads_not (List.mem_map_of_mem (List.getElem_mem hi)) hmem (by rw [hmap]; exact hf)]
        decide
      refine And.intro (by omega) (And.intro hjt ?_)
      refine some_at hA5 ?_
      refine Exists.intro z (And.intro hz ?_)
      refine if_p (fun hneg => ?_) (fun hneg => ?_)
      · exact bad (by rw [← hmap]; exact hbegin z (.inl hneg))
      replace hneg : ¬ z < 0 := hneg
      refine And.intro (by omega) (And.intro hjt ?_)
      refine some_at hA5 ?_
      refine Exists.intro z (And.intro hz ?_)
      refine if_p (fun hbig => ?_) (fun hbig => ?_)
      · exact bad (by rw [← hmap]; exact hbegin z (.inr hbig))
      replace hbig : ¬ (bs.length : Int) ≤ z := hbig
      obtain ⟨k, rfl⟩ : ∃ k : Nat, z = k := ⟨z.toNat, by omega⟩
      refine And.intro (by omega) (And.intro hjt ?_)
      refine some_at hA5 ?_
      refine Exists.intro (k : Int) (And.intro hz ?_)
      refine And.intro (by omega) (And.intro (by omega) ?_)
      have hk := ha3 k (by omega)
      refine Exists.intro (ts.any fun y => decide (y.1.p = (k : Int))) (And.intro (cellB (k5.blk hB3) (by rw [ix1]; exact hk)) ?_)
      cases hany : (ts.any fun y => decide (y.1.p = (k : Int))) with
      | false => exact bad hany
      | true =>
        refine ⟨m', j + 1, by omega, ⟨rfl, rfl, rfl, rfl, rfl, incj, trivial⟩, by omega, rfl, fun y hy => ?_⟩
        rw [hsnoc] at hy
        rcases List.mem_append.1 hy with hy | hy
        · exact hgood' y hy
        · rw [List.mem_singleton.1 hy]
          exact hany
    · replace hjg : ¬ (j : Int) < ((targets ts[i].1).length : Int) := hjg
      obtain rfl : j = (targets ts[i].1).length := by omega
      rw [List.take_length] at hgood'
      refine ⟨m, i + 1, by omega, ⟨rfl, rfl, rfl, inc, trivial⟩, by omega, k5, fun x hx => ?_⟩
      rw [List.take_succ_eq_append_getElem hi] at hx
      rcases List.mem_append.1 hx with hx | hx
      · exact hgood x hx
      · rw [List.mem_singleton.1 hx]
        exact hgood'
  · replace hge : ¬ (i : Int) < (ts.length : Int) := hge
    obtain rfl : i = ts.length := by omega
    rw [List.take_length] at hgood
    refine hK () _ _ ⟨rfl, trivial⟩ ⟨kl, ?_⟩
    unfold leads
    rw [List.all_eq_true]
    intro x hx
    obtain ⟨y, hy, rfl⟩ := List.mem_map.1 hx
    rw [List.all_eq_true]
    intro z hz
    rw [hmap]
    exact hgood y hy z hz
theorem rDecode_ok (A : Option Addr) (n c : Nat) (bs : List UInt8) (w : World) (hn : n = bs.length) (hr : Row w A (bvs bs)) (hc : bs.length ≤ c) (ht : c ≤ 9223372036854775807) :
    Calls Try.prog 26 #[.slice A n c] w (DecRes w bs) := by
  subst hn
  refine enter ok Try.func26 rfl rfl rfl ?_
  refine if_p (fun hlt => ?_) (fun hge => ?_)
  · replace hlt : (4096 : Int) < (bs.length : Int) := hlt
    refine ⟨[], none, 0, ?_, ?_, ct_nil _ _, Nat.le_refl _, by omega, New.refl _⟩
    · unfold lsOf; rw [if_pos (by omega)]; rfl
    · unfold erOf; rw [if_pos (by omega)]; rfl
  · replace hge : ¬ (4096 : Int) < (bs.length : Int) := hge
    have hlen : ¬ 4096 < bs.length := by omega
    refine call_ (decoded_ok A _ c bs w rfl hr hc ht (by omega)) ?_
    rintro e w1 ⟨ts, A1, c1, hts, rfl, ct1, h1, h2, n1⟩
    refine ⟨_, rfl, ?_⟩
    have hls : lsOf bs = (dec bs).getD [] := by unfold lsOf; rw [if_neg hlen]
    have her : erOf bs = (match dec bs with
      | none => 90
      | some _ => 0) := by
      unfold erOf
      rw [if_neg hlen]
      cases dec bs <;> rfl
    unfold DecRes
    rw [hls, her]
    unfold dec
    cases hl : loopP bs.length 0 bs with
    | none =>
      rw [hl] at hts
      have : ts = [] := by simpa using hts
      subst this
      exact ⟨[], none, 0, rfl, rfl, ct_nil _ _, Nat.le_refl _, by omega, n1⟩
    | some l =>
      rw [hl] at hts
      simp only [Option.bind_some] at hts ⊢
      refine if_p (fun hz => ?_) (fun hz => ?_)
      · replace hz : (ts.length : Int) = 0 := hz
        have : ts = [] := List.length_eq_zero_iff.1 (by omega)
        subst this
        rw [if_neg]
        · exact ⟨[], none, 0, rfl, rfl, ct_nil _ _, Nat.le_refl _, by omega, n1⟩
        · rintro ⟨h3, h4⟩
          rw [if_pos h4] at hts
          exact h3 hts.symm
      · replace hz : ¬ (ts.length : Int) = 0 := hz
        by_cases h4 : leads l = true
        · rw [if_pos h4] at hts
          have hts' : ts.map (·.1) = l := hts
          rw [if_pos ⟨fun h => by rw [h, List.map_eq_nil_iff] at hts'; rw [hts'] at hz; exact hz rfl, h4⟩]
          exact ⟨ts, A1, c1, hts', rfl, ct1, h1, h2, n1⟩
        · rw [if_neg h4] at hts
          have : ts = [] := by simpa using hts
          rw [this] at hz
          exact absurd rfl hz
end Go.Proofs.Ytcpeekeiflglpaa.Code

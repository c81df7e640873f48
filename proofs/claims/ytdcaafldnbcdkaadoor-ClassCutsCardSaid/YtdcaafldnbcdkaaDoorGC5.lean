/- The texts KCuts behind one another, merged by mrg.py; each says in its own place what it proves. -/
import Derived.Test.YtdcaafldnbcdkaaDoorGC4

/-! ### KCuts -/
namespace Go.Proofs.YtdcaafldnbcdkaaDoor.Class
open Go Go.Proofs.YtdcaafldnbcdkaaDoor Go.Proofs.YtdcaafldnbcdkaaDoor.Eng Go.Proofs Go.Proofs.YtdcaafldnbcdkaaDoor.Word Go.Proofs.YtdcaafldnbcdkaaDoor.Fmt
open Go.Proofs.YtdcaafldnbcdkaaDoor.Pool (Ent at_ poolF strV entC entV EntOk Pl OkPool both own_low tagAt)
set_option maxRecDepth 10000

theorem told_pos {bs : List UInt8} {x : Cls} (h : Is bs x) : 1 ≤ bs.length := by
  obtain ⟨_, h2, _⟩ := is_of h
  rw [h2]
  show 1 ≤ (enc 4 3405691582 ++ _).length
  rw [List.length_append, enc_length]
  omega
theorem ClassCuts_ok (cs0 : List Value) (m : Cls) (S : Nat → Prop) (cut : Int) (A : Option Addr) (n c : Nat) (bs : List UInt8) (w : World) (hx : clsR w S cs0 m) (hf : fCls m) (hk : Kt w) (hn : n = bs.length) (hr : Row w A (bvs bs)) (hc : n ≤ c) (hc2 : c ≤ 9223372036854775807) :
    Calls Tryd.prog 7 #[.agg cs0.toArray, .int .i64 cut, .slice A n c] w fun e w' => e = .returned (.bool true) ∧ New w w' := by
  subst hn
  have hx0 := hx
  obtain ⟨_, _, _, rfl, lp, lf, lm⟩ := hx
  obtain ⟨A1, a1, rfl, _⟩ := lp.get entOk (by decide)
  obtain ⟨F1, f1, rfl, _⟩ := lf.get fldOk (by decide)
  obtain ⟨M1, m1, rfl, _⟩ := lm.get mthOk (by decide)
  have hG := hk.lt
  have hxw : ∀ {w' : World}, New w w' → clsR w' S [.slice A1 m.pool.length a1, strV m.name, strV m.super, .slice F1 m.fields.length f1, .slice M1 m.methods.length m1] m := fun n => clsOk.mod hx0 (n.mod.mono fun _ _ e => False.elim e)
  have hkw : ∀ {w' : World}, New w w' → Kt w' := fun n k h0 h5 => n.cell (hk k h0 h5)
  have hGw : ∀ {w' : World}, New w w' → 0 < w'.heap.size := fun n => by have := n.size; omega
  refine enter ok Tryd.func7 rfl rfl rfl ?_
  refine seq_cut (σ := Unit) (fun _ => [(1, zi cut), (2, .slice A bs.length c), (3, .pointer (some ⟨w.heap.size, 0, none⟩))]) (fun _ w' => New w w' ∧ w'.heap[w.heap.size]? = some (.cells #[.slice A1 m.pool.length a1, strV m.name, strV m.super, .slice F1 m.fields.length f1, .slice M1 m.methods.length m1] 26 (0, 0))) ?_ ?_
  rotate_left
  · intro K hK
    exact hK () _ _ ⟨rfl, rfl, rfl, trivial⟩ ⟨New.alloc w _, heap_alloc_new w (.cells #[.slice A1 m.pool.length a1, strV m.name, strV m.super, .slice F1 m.fields.length f1, .slice M1 m.methods.length m1] 26)⟩
  rintro _ w1 fr1 ⟨n1, hM1⟩
  refine seq_cut (σ := Unit) (fun _ => [(1, zi cut), (2, .slice A bs.length c), (3, .pointer (some ⟨w.heap.size, 0, none⟩))]) (fun _ w' => New w w' ∧ w'.heap[w.heap.size]? = some (.cells #[.slice A1 m.pool.length a1, strV m.name, strV m.super, .slice F1 m.fields.length f1, .slice M1 m.methods.length m1] 26 (0, 0))) ?_ ?_
  rotate_left
  · intro K hK
    refine call_ (works_ok w1 (hkw n1) (hGw n1)) ?_
    rintro e w2 ⟨rfl, n2⟩
    refine ⟨_, rfl, ?_⟩
    exact hK () _ _ ⟨rfl, rfl, rfl, trivial⟩ ⟨n1.trans n2, n2.blk hM1⟩
  rintro _ w2 fr2 ⟨n2, hM2⟩
  refine seq_cut (σ := Unit) (fun _ => [(1, zi cut), (2, .slice A bs.length c), (3, .pointer (some ⟨w.heap.size, 0, none⟩))]) (fun _ w' => New w w' ∧ w'.heap[w.heap.size]? = some (.cells #[.slice A1 m.pool.length a1, strV m.name, strV m.super, .slice F1 m.fields.length f1, .slice M1 m.methods.length m1] 26 (0, 0)) ∧ cCls m ≤ 170000 ∧ bs.length ≤ 500) ?_ ?_
  rotate_left
  · intro K hK
    refine loadN_row (vs := [.slice A1 m.pool.length a1, strV m.name, strV m.super, .slice F1 m.fields.length f1, .slice M1 m.methods.length m1]) (rowB hM2) rfl ?_
    refine call_ (light_ok [.slice A1 m.pool.length a1, strV m.name, strV m.super, .slice F1 m.fields.length f1, .slice M1 m.methods.length m1] m S w2 (hxw n2)) ?_
    rintro e w3 ⟨b, rfl, hb, n3⟩
    refine ⟨_, rfl, ?_⟩
    cases b with
    | false => exact ⟨rfl, n2.trans n3⟩
    | true =>
      refine if_p (fun hl => ?_) (fun hl => ?_)
      · exact ⟨rfl, n2.trans n3⟩
      · replace hl : ¬ (500 : Int) < (bs.length : Int) := hl
        exact hK () _ _ ⟨rfl, rfl, rfl, trivial⟩ ⟨n2.trans n3, n3.blk hM2, (hb rfl).1, by omega⟩
  rintro _ w3 fr3 ⟨n3, hM3, hcost, hlen⟩
  refine seq_cut (σ := (Option Addr × Nat × Nat) × Int) (fun t => [(1, zi cut), (2, .slice A bs.length c), (7, .slice t.1.1 t.1.2.1 t.1.2.2), (8, zi t.2)]) (fun t w' => New w w' ∧ t.2 = errOf m ∧ t.1.2.1 = (bytesOf m).length ∧ Row w' t.1.1 (bvs (bytesOf m)) ∧ (bytesOf m).length ≤ t.1.2.2 ∧ t.1.2.2 ≤ 9223372036854775807) ?_ ?_
  rotate_left
  · intro K2 hK2
    refine loadN_row (vs := [.slice A1 m.pool.length a1, strV m.name, strV m.super, .slice F1 m.fields.length f1, .slice M1 m.methods.length m1]) (rowB hM3) rfl ?_
    refine call_ (Print_ok [.slice A1 m.pool.length a1, strV m.name, strV m.super, .slice F1 m.fields.length f1, .slice M1 m.methods.length m1] m S w3 (hxw n3) hf (hkw n3) (hGw n3) (by omega)) ?_
    rintro e w4 ⟨A4, c4, rfl, row4, ha, hb, n4⟩
    refine ⟨_, rfl, ?_⟩
    exact hK2 ((A4, (bytesOf m).length, c4), errOf m) _ _ ⟨rfl, rfl, rfl, rfl, trivial⟩ ⟨n3.trans n4, rfl, rfl, row4, ha, hb⟩
  rintro ⟨⟨A4, q4, c4⟩, er⟩ w4 fr4 ⟨n4, her, hq4, row4, hc4, hd4⟩
  dsimp only at her hq4 row4 hc4 hd4
  refine seq_cut (σ := Unit) (fun t => [(1, zi cut), (2, .slice A bs.length c), (7, .slice A4 q4 c4)]) (fun _ w' => w' = w4 ∧ er = 0) ?_ ?_
  rotate_left
  · intro K hK
    refine if_n (fun hne => ?_) (fun h0 => ?_)
    · replace hne : ¬ er = 0 := hne
      have hb0 : bytesOf m = [] := by
        rcases err_cases m with ⟨h, _⟩ | ⟨_, h⟩ | ⟨_, h⟩
        · exact absurd (her.trans h) hne
        · exact h
        · exact h
      have hq0 : (q4 : Int) = 0 := by rw [hq4, hb0]; rfl
      exact ⟨(show Ending.returned (.bool (decide ((q4 : Int) = 0))) = .returned (.bool true) by rw [decide_eq_true hq0]), n4⟩
    · exact hK () _ _ ⟨rfl, rfl, rfl, trivial⟩ ⟨rfl, h0⟩
  rintro _ wy fry ⟨hwy, h0⟩
  obtain rfl := hwy.symm
  have his : Is (bytesOf m) m := ⟨her.symm.trans h0, rfl⟩
  have hbm := (is_of his).2.2
  have hpos := told_pos his
  clear hM3 hcost
  -- cut
  refine seq_cut (σ := Int) (fun t => [(2, .slice A bs.length c), (7, .slice A4 q4 c4), (10, zi t)]) (fun t w' => New w4 w' ∧ t = 80) ?_ ?_
  rotate_left
  · intro K hK
    refine call_ (Among_ok cut (q4 : Int) w4 ⟨by omega, by omega⟩) ?_
    rintro e w5 ⟨k, rfl, hk2, hw5⟩
    obtain rfl := hw5.symm
    refine ⟨_, rfl, ?_⟩
    refine And.intro (by omega) (And.intro (by omega) ?_)
    have hkl : k < (bytesOf m).length := by omega
    have hl : ((bytesOf m).take k).length = k := by rw [List.length_take]; omega
    have rowk : Row w4 A4 (bvs ((bytesOf m).take k)) := by
      have e : bvs ((bytesOf m).take k) = (bvs (bytesOf m)).take k := by simp [bvs]
      rw [e]
      exact row4.take k
    have hp := Parse_ok A4 c4 ((bytesOf m).take k) w4 rowk (by omega) hd4 (by omega) (hkw n4) (hGw n4)
    rw [hl] at hp
    refine call_ hp ?_
    intro e w6 hres
    obtain ⟨P2, p2, F2, f2, M2, m2, y, e2, rfl, hy, ht, n6⟩ := hres.told
    refine ⟨_, rfl, ?_⟩
    refine And.intro rfl ?_
    refine storeNew (vs := [.slice P2 y.pool.length p2, strV y.name, strV y.super, .slice F2 y.fields.length f2, .slice M2 y.methods.length m2]) (arr := #[.slice none 0 0, .string ⟨#[]⟩, .string ⟨#[]⟩, .slice none 0 0, .slice none 0 0]) rfl (clsOk.one hy) ?_
    intro w7 hb7 n7 s7
    refine hK e2 _ _ ⟨rfl, rfl, rfl, trivial⟩ ⟨n6.trans n7, ?_⟩
    rw [(ht.bad fun z => is_cut his hkl).1, if_neg (by omega)]
  rintro e5 w5 fr5 ⟨n5, he5⟩
  -- and with more behind
  refine seq_cut (σ := Int) (fun t => [(2, .slice A bs.length c), (10, zi e5), (12, zi t)]) (fun t w' => New w5 w' ∧ ∃ y, Told (bytesOf m ++ bs) y t) ?_ ?_
  rotate_left
  · intro K hK
    refine call_ (Base.Bytes_ok A4 q4 c4 (bytesOf m) w5 hq4 (row4.new n5) (by omega)) ?_
    rintro e w6 ⟨v6, rfl, own6, n6⟩
    obtain ⟨A6, c6, rfl, _⟩ := own_slice own6
    refine ⟨_, rfl, ?_⟩
    have n56 := n4.trans (n5.trans n6)
    refine append2_ ok rfl rfl rfl rfl own6 rfl rfl (hr.new n56) (by rw [bvs_length]; exact (Nat.mul_one _).symm) (bvs_one bs) (by decide) rfl (by show (q4 + bs.length) * 1 ≤ _; omega) (by omega) n6.size ?_
    intro A7 c7 w7 own7 mod7 st7
    have n67 : New w5 w7 := Mod.trans n6 mod7 fun b hb e => by have := (own6.lt b e.symm).1; omega
    obtain ⟨A8, c8, he8, hc8, hd8, row8, _⟩ := own_slice own7
    cases he8
    have hbv : bvs (bytesOf m) ++ bvs bs = bvs (bytesOf m ++ bs) := by simp [bvs]
    rw [hbv] at row8
    have n47 := n4.trans (n5.trans n67)
    have hp := Parse_ok A7 c7 (bytesOf m ++ bs) w7 row8 (by rw [List.length_append]; omega) hd8 (by rw [List.length_append]; omega) (hkw n47) (hGw n47)
    rw [List.length_append, ← hq4] at hp
    refine call_ hp ?_
    intro e w9 hres
    obtain ⟨P2, p2, F2, f2, M2, m2, y, e2, rfl, hy, ht, n9⟩ := hres.told
    refine ⟨_, rfl, ?_⟩
    refine And.intro rfl ?_
    refine storeNew (vs := [.slice P2 y.pool.length p2, strV y.name, strV y.super, .slice F2 y.fields.length f2, .slice M2 y.methods.length m2]) (arr := #[.slice none 0 0, .string ⟨#[]⟩, .string ⟨#[]⟩, .slice none 0 0, .slice none 0 0]) rfl (clsOk.one hy) ?_
    intro w10 hb10 n10 s10
    exact hK e2 _ _ ⟨rfl, rfl, rfl, trivial⟩ ⟨(n67.trans n9).trans n10, y, ht⟩
  rintro e6 w6 fr6 ⟨n6, y, ht⟩
  have hcase : (e6 = 0 ∧ (bs.length : Int) = 0) ∨ (e6 = 80 ∧ ¬ (bs.length : Int) = 0) ∨ (e6 = 3 ∧ ¬ (bs.length : Int) = 0) := by
    by_cases hb : bs = []
    · subst hb
      rw [List.append_nil] at ht
      exact .inl ⟨(ht.good his).1, rfl⟩
    · have hl : ¬ (bs.length : Int) = 0 := fun h => hb (List.length_eq_zero_iff.1 (by omega))
      have := (ht.bad fun z hz => hb (is_more his hz)).1
      split at this
      · exact .inr (.inr ⟨this, hl⟩)
      · exact .inr (.inl ⟨this, hl⟩)
  have hend : decide (e6 = 0) = decide ((bs.length : Int) = 0) := by
    rcases hcase with ⟨h1, h2⟩ | ⟨h1, h2⟩ | ⟨h1, h2⟩
    · rw [decide_eq_true h1, decide_eq_true h2]
    · rw [decide_eq_false (by omega), decide_eq_false h2]
    · rw [decide_eq_false (by omega), decide_eq_false h2]
  have nn := n4.trans (n5.trans n6)
  refine if_p (fun _ => ?_) (fun h => absurd he5 h)
  refine if_p (fun _ => ?_) (fun h => absurd hend h)
  refine if_p (fun _ => ⟨rfl, nn⟩) (fun h1 => ?_)
  refine if_p (fun _ => ⟨rfl, nn⟩) (fun h2 => ?_)
  replace h1 : ¬ e6 = 0 := h1
  replace h2 : ¬ e6 = 80 := h2
  refine ⟨(show Ending.returned (.bool (decide (e6 = 3))) = .returned (.bool true) by rw [decide_eq_true (show e6 = 3 by omega)]), nn⟩

end Go.Proofs.YtdcaafldnbcdkaaDoor.Class

/- ImageCuts, walked. Printed by genlaws.py. -/
import Derived.Test.YteanhakkceancaaIBack
namespace Go.Proofs.Yteanhakkceancaa.Image
open Go Go.Proofs.Yteanhakkceancaa Go.Proofs.Yteanhakkceancaa.Eng Go.Proofs Go.Proofs.Yteanhakkceancaa.Word Go.Proofs.Yteanhakkceancaa.Fmt
open Go.Proofs.Yteanhakkceancaa.Pool (both own_low)
set_option maxRecDepth 10000

theorem Among_ok (x n : Int) (w : World) (hn : 1 ≤ n ∧ n ≤ 9223372036854775807) : Calls Try.prog 16 #[.int .i64 x, .int .i64 n] w fun e w' => ∃ k : Nat, e = .returned (.int .i64 (k : Int)) ∧ (k : Int) < n ∧ w' = w := by
  refine enter ok Try.func16 rfl rfl rfl ?_
  refine if_p (fun h => absurd h (by omega)) (fun _ => ?_)
  have e1 : IntKind.u64.wrap n = n := by rw [wrap_u64]; omega
  refine And.intro (show IntKind.u64.wrap n ≠ 0 by rw [e1]; omega) ?_
  have h0 : 0 ≤ IntKind.u64.wrap x := by rw [wrap_u64]; omega
  have h1 : 0 ≤ (IntKind.u64.wrap x).tmod n ∧ (IntKind.u64.wrap x).tmod n < n := ⟨Int.tmod_nonneg _ h0, Int.tmod_lt_of_pos _ (by omega)⟩
  refine ⟨((IntKind.u64.wrap x).tmod n).toNat, ?_, by omega, rfl⟩
  show Ending.returned (.int .i64 (IntKind.i64.wrap ((IntKind.u64.wrap x).tmod (IntKind.u64.wrap n)))) = _
  rw [e1, wrap_i64 (by omega) (by omega), Int.toNat_of_nonneg h1.1]
theorem enc_pos (m : Mach) : 1 ≤ (machF.enc m).length := by
  show 1 ≤ (enc 8 m.status ++ _).length
  rw [List.length_append, enc_length]
  omega
theorem ImageCuts_ok (cs0 : List Value) (m : Mach) (S : Nat → Prop) (cut : Int) (A : Option Addr) (n c : Nat) (bs : List UInt8) (w : World) (hx : machR w S cs0 m) (hf : fMach m) (hn : n = bs.length) (hr : Row w A (bvs bs)) (hc : n ≤ c) (hc2 : c ≤ 9223372036854775807) :
    Calls Try.prog 6 #[.agg cs0.toArray, .int .i64 cut, .slice A n c] w fun e w' => e = .returned (.bool true) ∧ New w w' := by
  subst hn
  have hx0 := hx
  obtain ⟨_, _, _, _, _, _, rfl, LO1, LT1, LH1, LM1, LI1, LU1⟩ := hx
  obtain ⟨O1, o1, _, rfl, _⟩ := LO1
  obtain ⟨T1, t1, _, rfl, _⟩ := LT1
  obtain ⟨H1, h1, _, rfl, _⟩ := LH1
  obtain ⟨M1, m1, _, rfl, _⟩ := LM1
  obtain ⟨I1, i1, _, rfl, _⟩ := LI1
  obtain ⟨U1, u1, _, rfl, _⟩ := LU1
  have hxw : ∀ {w' : World}, New w w' → machR w' S [zi m.status, .slice O1 m.objs.length o1, .slice T1 m.statics.length t1, .slice H1 m.thrs.length h1, .slice M1 m.mons.length m1, zi m.read, .slice I1 m.ins.length i1, .slice U1 m.outs.length u1, zi m.gone, zi m.steps] m := fun n => machOk.mod hx0 n.mod
  refine enter ok Try.func6 rfl rfl rfl ?_
  refine seq_cut (σ := Unit) (fun _ => [(1, zi cut), (2, .slice A bs.length c), (3, .pointer (some ⟨w.heap.size, 0, none⟩))]) (fun _ w' => New w w' ∧ w'.heap[w.heap.size]? = some (.cells #[zi m.status, .slice O1 m.objs.length o1, .slice T1 m.statics.length t1, .slice H1 m.thrs.length h1, .slice M1 m.mons.length m1, zi m.read, .slice I1 m.ins.length i1, .slice U1 m.outs.length u1, zi m.gone, zi m.steps] 28 (0, 0))) ?_ ?_
  rotate_left
  · intro K hK
    exact hK () _ _ ⟨rfl, rfl, rfl, trivial⟩ ⟨New.alloc w _, heap_alloc_new w (.cells #[zi m.status, .slice O1 m.objs.length o1, .slice T1 m.statics.length t1, .slice H1 m.thrs.length h1, .slice M1 m.mons.length m1, zi m.read, .slice I1 m.ins.length i1, .slice U1 m.outs.length u1, zi m.gone, zi m.steps] 28)⟩
  rintro _ w1 fr1 ⟨n1, hM1⟩
  refine seq_cut (σ := Unit) (fun _ => [(1, zi cut), (2, .slice A bs.length c), (3, .pointer (some ⟨w.heap.size, 0, none⟩))]) (fun _ w' => New w w' ∧ w'.heap[w.heap.size]? = some (.cells #[zi m.status, .slice O1 m.objs.length o1, .slice T1 m.statics.length t1, .slice H1 m.thrs.length h1, .slice M1 m.mons.length m1, zi m.read, .slice I1 m.ins.length i1, .slice U1 m.outs.length u1, zi m.gone, zi m.steps] 28 (0, 0))) ?_ ?_
  rotate_left
  · intro K hK
    refine call_ (works_ok w1) ?_
    rintro e w2 ⟨rfl, n2⟩
    refine ⟨_, rfl, ?_⟩
    exact hK () _ _ ⟨rfl, rfl, rfl, trivial⟩ ⟨n1.trans n2, n2.blk hM1⟩
  rintro _ w2 fr2 ⟨n2, hM2⟩
  refine seq_cut (σ := Unit) (fun _ => [(1, zi cut), (2, .slice A bs.length c), (3, .pointer (some ⟨w.heap.size, 0, none⟩))]) (fun _ w' => New w w' ∧ w'.heap[w.heap.size]? = some (.cells #[zi m.status, .slice O1 m.objs.length o1, .slice T1 m.statics.length t1, .slice H1 m.thrs.length h1, .slice M1 m.mons.length m1, zi m.read, .slice I1 m.ins.length i1, .slice U1 m.outs.length u1, zi m.gone, zi m.steps] 28 (0, 0)) ∧ cMach m ≤ 1000000 ∧ bs.length ≤ 300) ?_ ?_
  rotate_left
  · intro K hK
    refine loadN_row (vs := [zi m.status, .slice O1 m.objs.length o1, .slice T1 m.statics.length t1, .slice H1 m.thrs.length h1, .slice M1 m.mons.length m1, zi m.read, .slice I1 m.ins.length i1, .slice U1 m.outs.length u1, zi m.gone, zi m.steps]) (rowB hM2) rfl ?_
    refine call_ (light_ok [zi m.status, .slice O1 m.objs.length o1, .slice T1 m.statics.length t1, .slice H1 m.thrs.length h1, .slice M1 m.mons.length m1, zi m.read, .slice I1 m.ins.length i1, .slice U1 m.outs.length u1, zi m.gone, zi m.steps] m S w2 (hxw n2)) ?_
    rintro e w3 ⟨b, rfl, hb, n3⟩
    refine ⟨_, rfl, ?_⟩
    cases b with
    | false => exact ⟨rfl, n2.trans n3⟩
    | true =>
      refine if_p (fun hl => ?_) (fun hl => ?_)
      · exact ⟨rfl, n2.trans n3⟩
      · replace hl : ¬ (300 : Int) < (bs.length : Int) := hl
        exact hK () _ _ ⟨rfl, rfl, rfl, trivial⟩ ⟨n2.trans n3, n3.blk hM2, hb rfl, by omega⟩
  rintro _ w3 fr3 ⟨n3, hM3, hcost, hlen⟩
  refine seq_cut (σ := (Option Addr × Nat × Nat) × Int) (fun t => [(1, zi cut), (2, .slice A bs.length c), (7, .slice t.1.1 t.1.2.1 t.1.2.2), (8, zi t.2)]) (fun t w' => New w w' ∧ t.2 = errOf m ∧ t.1.2.1 = (bytesOf m).length ∧ Row w' t.1.1 (bvs (bytesOf m)) ∧ (bytesOf m).length ≤ t.1.2.2 ∧ t.1.2.2 ≤ 9223372036854775807) ?_ ?_
  rotate_left
  · intro K2 hK2
    refine loadN_row (vs := [zi m.status, .slice O1 m.objs.length o1, .slice T1 m.statics.length t1, .slice H1 m.thrs.length h1, .slice M1 m.mons.length m1, zi m.read, .slice I1 m.ins.length i1, .slice U1 m.outs.length u1, zi m.gone, zi m.steps]) (rowB hM3) rfl ?_
    refine call_ (Bytes_ok [zi m.status, .slice O1 m.objs.length o1, .slice T1 m.statics.length t1, .slice H1 m.thrs.length h1, .slice M1 m.mons.length m1, zi m.read, .slice I1 m.ins.length i1, .slice U1 m.outs.length u1, zi m.gone, zi m.steps] m S w3 (hxw n3) hf (by omega)) ?_
    rintro e w4 ⟨A4, c4, rfl, row4, ha, hb, n4⟩
    refine ⟨_, rfl, ?_⟩
    exact hK2 ((A4, (bytesOf m).length, c4), errOf m) _ _ ⟨rfl, rfl, rfl, rfl, trivial⟩ ⟨n3.trans n4, rfl, rfl, row4, ha, hb⟩
  rintro ⟨⟨A4, q4, c4⟩, er⟩ w4 fr4 ⟨n4, her, hq4, row4, hc4, hd4⟩
  dsimp only at her hq4 row4 hc4 hd4
  refine seq_cut (σ := Unit) (fun t => [(1, zi cut), (2, .slice A bs.length c), (7, .slice A4 q4 c4)]) (fun _ w' => w' = w4 ∧ er = 0) ?_ ?_
  rotate_left
  · intro K hK
    refine if_n (fun hne => ?_) (fun h0 => ?_)
    · replace hne : ¬ er = 0 := hne
      have hb0 : bytesOf m = [] := by
        unfold bytesOf
        rw [if_neg]
        rintro ⟨ho, hl⟩
        apply hne
        rw [her]
        unfold errOf
        rw [if_pos ho, if_pos hl]
      have hq0 : (q4 : Int) = 0 := by rw [hq4, hb0]; rfl
      exact ⟨(show Ending.returned (.bool (decide ((q4 : Int) = 0))) = .returned (.bool true) by rw [decide_eq_true hq0]), n4⟩
    · exact hK () _ _ ⟨rfl, rfl, rfl, trivial⟩ ⟨rfl, h0⟩
  rintro _ wy fry ⟨hwy, h0⟩
  obtain rfl := hwy.symm
  have herr : errOf m = 0 := her.symm.trans h0
  obtain ⟨hpm, hbe⟩ := parse_bytes herr
  have hbm := bytes_most m
  unfold most at hbm
  have hpos := enc_pos m
  rw [← hbe] at hpos
  clear hM3 hcost
  -- cut
  refine seq_cut (σ := Nat × Int) (fun t => [(2, .slice A bs.length c), (7, .slice A4 q4 c4), (10, zi t.2)]) (fun t w' => New w4 w' ∧ t.2 = 210) ?_ ?_
  rotate_left
  · intro K hK
    refine call_ (Among_ok cut (q4 : Int) w4 ⟨by omega, by omega⟩) ?_
    rintro e w5 ⟨k, rfl, hk, hw5⟩
    obtain rfl := hw5.symm
    refine ⟨_, rfl, ?_⟩
    refine And.intro (by omega) (And.intro (by omega) ?_)
    have hkl : k < (bytesOf m).length := by omega
    have hpc := parse_cut herr hkl
    have hl : ((bytesOf m).take k).length = k := by rw [List.length_take]; omega
    have rowk : Row w4 A4 (bvs ((bytesOf m).take k)) := by
      have e : bvs ((bytesOf m).take k) = (bvs (bytesOf m)).take k := by simp [bvs]
      rw [e]
      exact row4.take k
    refine call_ (Parse_ok A4 _ c4 ((bytesOf m).take k) w4 (by rw [hl, Int.toNat_natCast]) rowk (by omega) hd4 (by omega)) ?_
    rintro e w6 ⟨cs, rfl, hy, n6⟩
    obtain ⟨y, hyy⟩ : ∃ y, y = (parseM ((bytesOf m).take k)).getD void := ⟨_, rfl⟩
    rw [← hyy] at hy
    have hy0 := hy
    obtain ⟨_, _, _, _, _, _, rfl, LO2, LT2, LH2, LM2, LI2, LU2⟩ := hy
    obtain ⟨O2, o2, _, rfl, _⟩ := LO2
    obtain ⟨T2, t2, _, rfl, _⟩ := LT2
    obtain ⟨H2, h2, _, rfl, _⟩ := LH2
    obtain ⟨M2, m2, _, rfl, _⟩ := LM2
    obtain ⟨I2, i2, _, rfl, _⟩ := LI2
    obtain ⟨U2, u2, _, rfl, _⟩ := LU2
    refine ⟨_, rfl, ?_⟩
    refine And.intro rfl ?_
    refine storeNew (vs := [zi y.status, .slice O2 y.objs.length o2, .slice T2 y.statics.length t2, .slice H2 y.thrs.length h2, .slice M2 y.mons.length m2, zi y.read, .slice I2 y.ins.length i2, .slice U2 y.outs.length u2, zi y.gone, zi y.steps]) (arr := #[zi 0, .slice none 0 0, .slice none 0 0, .slice none 0 0, .slice none 0 0, zi 0, .slice none 0 0, .slice none 0 0, zi 0, zi 0]) rfl (machOk.one hy0) ?_
    intro w7 hb7 n7 s7
    exact hK (0, perr ((bytesOf m).take k)) _ _ ⟨rfl, rfl, rfl, trivial⟩ ⟨n6.trans n7, perr_none hpc⟩
  rintro ⟨_, e5⟩ w5 fr5 ⟨n5, he5⟩
  dsimp only at he5
  -- and with more behind
  refine seq_cut (σ := Int) (fun t => [(2, .slice A bs.length c), (10, zi e5), (12, zi t)]) (fun t w' => New w5 w' ∧ t = perr (bytesOf m ++ bs)) ?_ ?_
  rotate_left
  · intro K hK
    refine call_ (Base.Bytes_ok A4 q4 c4 (bytesOf m) w5 hq4 (row4.new n5) (by omega)) ?_
    rintro e w6 ⟨v6, rfl, own6, n6⟩
    obtain ⟨A6, c6, rfl, _⟩ := own_slice own6
    refine ⟨_, rfl, ?_⟩
    have n56 := n4.trans (n5.trans n6)
    refine append2_ ok rfl rfl rfl rfl own6 rfl rfl (hr.new n56) (by rw [bvs_length]; exact (Nat.mul_one _).symm) (bvs_one bs) (by decide) rfl (by show (q4 + bs.length) * 1 ≤ _; omega) (by omega) n6.size ?_
    intro A7 c7 w7 own7 mod7 st7
    have n67 : New w5 w7 := Mod.trans n6 mod7 fun b hb e => by have := (own6.lt b e.symm).1; omega
    obtain ⟨A8, c8, he8, hc8, hd8, row8, _⟩ := own_slice own7
    cases he8
    have hbv : bvs (bytesOf m) ++ bvs bs = bvs (bytesOf m ++ bs) := by simp [bvs]
    rw [hbv] at row8
    refine call_ (Parse_ok A7 _ c7 (bytesOf m ++ bs) w7 (by rw [List.length_append, hq4]) row8 (by rw [List.length_append]; omega) hd8 (by rw [List.length_append]; omega)) ?_
    rintro e w9 ⟨cs, rfl, hy, n9⟩
    obtain ⟨y, hyy⟩ : ∃ y, y = (parseM (bytesOf m ++ bs)).getD void := ⟨_, rfl⟩
    rw [← hyy] at hy
    have hy0 := hy
    obtain ⟨_, _, _, _, _, _, rfl, LO2, LT2, LH2, LM2, LI2, LU2⟩ := hy
    obtain ⟨O2, o2, _, rfl, _⟩ := LO2
    obtain ⟨T2, t2, _, rfl, _⟩ := LT2
    obtain ⟨H2, h2, _, rfl, _⟩ := LH2
    obtain ⟨M2, m2, _, rfl, _⟩ := LM2
    obtain ⟨I2, i2, _, rfl, _⟩ := LI2
    obtain ⟨U2, u2, _, rfl, _⟩ := LU2
    refine ⟨_, rfl, ?_⟩
    refine And.intro rfl ?_
    refine storeNew (vs := [zi y.status, .slice O2 y.objs.length o2, .slice T2 y.statics.length t2, .slice H2 y.thrs.length h2, .slice M2 y.mons.length m2, zi y.read, .slice I2 y.ins.length i2, .slice U2 y.outs.length u2, zi y.gone, zi y.steps]) (arr := #[zi 0, .slice none 0 0, .slice none 0 0, .slice none 0 0, .slice none 0 0, zi 0, .slice none 0 0, .slice none 0 0, zi 0, zi 0]) rfl (machOk.one hy0) ?_
    intro w10 hb10 n10 s10
    exact hK (perr (bytesOf m ++ bs)) _ _ ⟨rfl, rfl, rfl, trivial⟩ ⟨(n67.trans n9).trans n10, rfl⟩
  rintro e6 w6 fr6 ⟨n6, he6⟩
  have hend : (e6 = 0) ↔ ((bs.length : Int) = 0) := by
    rw [he6]
    by_cases hb : bs = []
    · subst hb
      rw [List.append_nil, perr_some hpm]
      simp
    · rw [perr_none (parse_more herr bs hb)]
      have : bs.length ≠ 0 := fun h => hb (List.length_eq_zero_iff.1 h)
      constructor
      · intro h; cases h
      · intro h; omega
  refine if_p (fun _ => ?_) (fun h => absurd he5 h)
  refine ⟨?_, n4.trans (n5.trans n6)⟩
  show Ending.returned (.bool (decide (decide (e6 = 0) = decide ((bs.length : Int) = 0)))) = _
  rw [decide_eq_true (show decide (e6 = 0) = decide ((bs.length : Int) = 0) from decide_eq_decide.2 hend)]

end Go.Proofs.Yteanhakkceancaa.Image

/- ImageReads, walked. Printed by genlaws.py. -/
import Derived.Test.YteanhakkceancaaIWorks
import Derived.Test.YteanhakkceancaaIRef2
import Derived.Test.YteanhakkceancaaBase
namespace Go.Proofs.Yteanhakkceancaa.Image
open Go Go.Proofs.Yteanhakkceancaa Go.Proofs.Yteanhakkceancaa.Eng Go.Proofs Go.Proofs.Yteanhakkceancaa.Word Go.Proofs.Yteanhakkceancaa.Fmt
open Go.Proofs.Yteanhakkceancaa.Pool (both own_low)
set_option maxRecDepth 10000

theorem ImageReads_ok (A : Option Addr) (n c : Nat) (bs : List UInt8) (w : World) (hn : n = bs.length) (hr : Row w A (bvs bs)) (hc : n ≤ c) (hc2 : c ≤ 9223372036854775807) :
    Calls Try.prog 4 #[.slice A n c] w fun e w' => e = .returned (.bool true) ∧ New w w' := by
  subst hn
  refine enter ok Try.func4 rfl rfl rfl ?_
  refine seq_cut (σ := Unit) (fun _ => [(0, .slice A bs.length c)]) (fun _ w' => w' = w) ?_ ?_
  rotate_left
  · intro K hK
    exact hK () _ _ ⟨rfl, trivial⟩ rfl
  rintro _ w0 fr0 hw0
  obtain rfl := hw0.symm
  refine seq_cut (σ := List UInt8 × Nat) (fun t => [(0, .slice A t.2 c)]) (fun t w' => w' = w ∧ t.2 = t.1.length ∧ Row w A (bvs t.1) ∧ t.1.length ≤ c ∧ t.1.length ≤ 20000) ?_ ?_
  rotate_left
  · intro K hK
    refine if_p (fun h4 => ?_) (fun h4 => ?_)
    · replace h4 : (20000 : Int) < (bs.length : Int) := h4
      refine And.intro (by decide) (And.intro (by omega) ?_)
      have hl : (bs.take 20000).length = 20000 := by rw [List.length_take]; omega
      exact hK (bs.take 20000, 20000) _ _ ⟨rfl, trivial⟩ ⟨rfl, hl.symm, (by
        have e : bvs (bs.take 20000) = (bvs bs).take 20000 := by simp [bvs]
        rw [e]
        intro j u hu
        rw [List.getElem?_take] at hu
        split at hu
        · exact hr j u hu
        · cases hu), by dsimp only; omega, by dsimp only; omega⟩
    · replace h4 : ¬ (20000 : Int) < (bs.length : Int) := h4
      exact hK (bs, bs.length) _ _ ⟨rfl, trivial⟩ ⟨rfl, rfl, hr, hc, by dsimp only; omega⟩
  rintro ⟨xs, m⟩ w1 fr1 ⟨hw1, hm, hr1, hc1, hl1⟩
  dsimp only at hm hr1 hc1 hl1
  obtain rfl := hw1.symm
  clear hr hc
  refine seq_cut (σ := Option Addr × Nat) (fun t => [(0, .slice A m c), (3, .slice t.1 m t.2)]) (fun t w' => New w w' ∧ Row w' t.1 (bvs xs) ∧ xs.length ≤ t.2 ∧ t.2 ≤ 9223372036854775807) ?_ ?_
  rotate_left
  · intro K hK
    refine call_ (Base.Bytes_ok A m c xs w hm hr1 (by omega)) ?_
    rintro e w2 ⟨v, rfl, own2, n2⟩
    refine ⟨_, rfl, ?_⟩
    obtain ⟨A2, c2, rfl, h1, h2, row2, _⟩ := own_slice own2
    exact hK (A2, c2) _ _ ⟨rfl, rfl, trivial⟩ ⟨n2, row2, by dsimp only; omega, h2⟩
  rintro ⟨A2, c2⟩ w2 fr2 ⟨n2, row2, h21, h22⟩
  dsimp only at row2 h21 h22
  refine seq_cut (σ := Nat × Int) (fun t => [(0, .slice A m c), (3, .slice A2 m c2), (4, .pointer (some ⟨t.1, 0, none⟩)), (5, zi t.2)]) (fun t w' => New w w' ∧ Row w' A2 (bvs xs) ∧ t.2 = perr xs ∧ ∃ cs, w'.heap[t.1]? = some (.cells cs.toArray 28 (0, 0)) ∧ machR w' (fun _ => False) cs ((parseM xs).getD void)) ?_ ?_
  rotate_left
  · intro K hK
    refine call_ (Parse_ok A2 m c2 xs w2 hm row2 h21 h22 (by omega)) ?_
    rintro e w3 ⟨cs, rfl, hx, n3⟩
    obtain ⟨y, hy⟩ : ∃ y, y = (parseM xs).getD void := ⟨_, rfl⟩
    rw [← hy] at hx hK
    have hx0 := hx
    obtain ⟨_, _, _, _, _, _, rfl, LO1, LT1, LH1, LM1, LI1, LU1⟩ := hx
    obtain ⟨O1, o1, _, rfl, _⟩ := LO1
    obtain ⟨T1, t1, _, rfl, _⟩ := LT1
    obtain ⟨H1, h1, _, rfl, _⟩ := LH1
    obtain ⟨M1, m1, _, rfl, _⟩ := LM1
    obtain ⟨I1, i1, _, rfl, _⟩ := LI1
    obtain ⟨U1, u1, _, rfl, _⟩ := LU1
    refine ⟨_, rfl, ?_⟩
    refine And.intro rfl ?_
    refine storeNew (vs := [zi y.status, .slice O1 y.objs.length o1, .slice T1 y.statics.length t1, .slice H1 y.thrs.length h1, .slice M1 y.mons.length m1, zi y.read, .slice I1 y.ins.length i1, .slice U1 y.outs.length u1, zi y.gone, zi y.steps]) (arr := #[zi 0, .slice none 0 0, .slice none 0 0, .slice none 0 0, .slice none 0 0, zi 0, .slice none 0 0, .slice none 0 0, zi 0, zi 0]) rfl (machOk.one hx0) ?_
    intro w4 hb4 n4 s4
    exact hK (w3.heap.size, perr xs) _ _ ⟨rfl, rfl, rfl, rfl, trivial⟩ ⟨(n2.trans n3).trans n4, row2.new (n3.trans n4), rfl, _, hb4, machOk.weak (machOk.mod hx0 n4.mod) fun b _ e => e.elim⟩
  rintro ⟨X, e1⟩ w3 fr3 ⟨n3, row3, he1, cs1, hb3, hx3⟩
  dsimp only at he1 hb3
  refine seq_cut (σ := Nat × Int) (fun t => [(0, .slice A m c), (3, .slice A2 m c2), (4, .pointer (some ⟨X, 0, none⟩)), (5, zi e1), (6, .pointer (some ⟨t.1, 0, none⟩)), (7, zi t.2)]) (fun t w' => New w w' ∧ New w3 w' ∧ t.2 = perr xs ∧ ∃ cs, w'.heap[t.1]? = some (.cells cs.toArray 28 (0, 0)) ∧ machR w' (fun _ => False) cs ((parseM xs).getD void)) ?_ ?_
  rotate_left
  · intro K hK
    refine call_ (rParse_ok A m c xs w3 hm (hr1.new n3) hc1 hc2 (by omega)) ?_
    rintro e w4 ⟨cs, rfl, hx, n4⟩
    obtain ⟨y, hy⟩ : ∃ y, y = (parseM xs).getD void := ⟨_, rfl⟩
    rw [← hy] at hx hK
    have hx0 := hx
    obtain ⟨_, _, _, _, _, _, rfl, LO2, LT2, LH2, LM2, LI2, LU2⟩ := hx
    obtain ⟨O2, o2, _, rfl, _⟩ := LO2
    obtain ⟨T2, t2, _, rfl, _⟩ := LT2
    obtain ⟨H2, h2, _, rfl, _⟩ := LH2
    obtain ⟨M2, m2, _, rfl, _⟩ := LM2
    obtain ⟨I2, i2, _, rfl, _⟩ := LI2
    obtain ⟨U2, u2, _, rfl, _⟩ := LU2
    refine ⟨_, rfl, ?_⟩
    refine And.intro rfl ?_
    refine storeNew (vs := [zi y.status, .slice O2 y.objs.length o2, .slice T2 y.statics.length t2, .slice H2 y.thrs.length h2, .slice M2 y.mons.length m2, zi y.read, .slice I2 y.ins.length i2, .slice U2 y.outs.length u2, zi y.gone, zi y.steps]) (arr := #[zi 0, .slice none 0 0, .slice none 0 0, .slice none 0 0, .slice none 0 0, zi 0, .slice none 0 0, .slice none 0 0, zi 0, zi 0]) rfl (machOk.one hx0) ?_
    intro w5 hb5 n5 s5
    exact hK (w4.heap.size, perr xs) _ _ ⟨rfl, rfl, rfl, rfl, rfl, rfl, trivial⟩ ⟨(n3.trans n4).trans n5, n4.trans n5, rfl, _, hb5, machOk.weak (machOk.mod hx0 n5.mod) fun b _ e => e.elim⟩
  rintro ⟨Y, e2⟩ w4 fr4 ⟨n4, n34, he2, cs2, hb4, hx4⟩
  dsimp only at he2 hb4
  have hb3' := n34.blk hb3
  replace hx3 := machOk.mod hx3 n34.mod
  obtain ⟨y, hy⟩ : ∃ y, y = (parseM xs).getD void := ⟨_, rfl⟩
  rw [← hy] at hx3 hx4
  have hx30 := hx3
  obtain ⟨_, _, _, _, _, _, rfl, LO1, LT1, LH1, LM1, LI1, LU1⟩ := hx3
  obtain ⟨O1, o1, _, rfl, _⟩ := LO1
  obtain ⟨T1, t1, _, rfl, _⟩ := LT1
  obtain ⟨H1, h1, _, rfl, _⟩ := LH1
  obtain ⟨M1, m1, _, rfl, _⟩ := LM1
  obtain ⟨I1, i1, _, rfl, _⟩ := LI1
  obtain ⟨U1, u1, _, rfl, _⟩ := LU1
  have hx40 := hx4
  obtain ⟨_, _, _, _, _, _, rfl, LO2, LT2, LH2, LM2, LI2, LU2⟩ := hx4
  obtain ⟨O2, o2, _, rfl, _⟩ := LO2
  obtain ⟨T2, t2, _, rfl, _⟩ := LT2
  obtain ⟨H2, h2, _, rfl, _⟩ := LH2
  obtain ⟨M2, m2, _, rfl, _⟩ := LM2
  obtain ⟨I2, i2, _, rfl, _⟩ := LI2
  obtain ⟨U2, u2, _, rfl, _⟩ := LU2
  refine loadN_row (vs := [zi y.status, .slice O1 y.objs.length o1, .slice T1 y.statics.length t1, .slice H1 y.thrs.length h1, .slice M1 y.mons.length m1, zi y.read, .slice I1 y.ins.length i1, .slice U1 y.outs.length u1, zi y.gone, zi y.steps]) (rowB hb3') rfl ?_
  refine loadN_row (vs := [zi y.status, .slice O2 y.objs.length o2, .slice T2 y.statics.length t2, .slice H2 y.thrs.length h2, .slice M2 y.mons.length m2, zi y.read, .slice I2 y.ins.length i2, .slice U2 y.outs.length u2, zi y.gone, zi y.steps]) (rowB hb4) rfl ?_
  refine call_ (SameMachine_ok [zi y.status, .slice O1 y.objs.length o1, .slice T1 y.statics.length t1, .slice H1 y.thrs.length h1, .slice M1 y.mons.length m1, zi y.read, .slice I1 y.ins.length i1, .slice U1 y.outs.length u1, zi y.gone, zi y.steps] [zi y.status, .slice O2 y.objs.length o2, .slice T2 y.statics.length t2, .slice H2 y.thrs.length h2, .slice M2 y.mons.length m2, zi y.read, .slice I2 y.ins.length i2, .slice U2 y.outs.length u2, zi y.gone, zi y.steps] y (fun _ => False) (fun _ => False) w4 hx30 hx40) ?_
  rintro e w5 ⟨rfl, n5⟩
  refine ⟨_, rfl, ?_⟩
  refine if_p (fun _ => ?_) (fun h => absurd (he1.trans he2.symm) h)
  refine call_ (Base.SameBytes_ok A2 A m c2 m c xs xs w5 hm hm (row3.new (n34.trans n5)) (hr1.new (n4.trans n5))) ?_
  rintro e w6 ⟨rfl, hw6⟩
  obtain rfl := hw6.symm
  refine ⟨_, rfl, ?_⟩
  refine if_yes (decide_eq_true rfl) ?_
  refine call_ (works_ok w5) ?_
  rintro e w7 ⟨rfl, n7⟩
  refine ⟨_, rfl, ?_⟩
  exact ⟨rfl, (n4.trans n5).trans n7⟩

end Go.Proofs.Yteanhakkceancaa.Image

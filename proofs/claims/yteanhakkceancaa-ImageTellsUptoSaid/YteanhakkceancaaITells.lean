/- ImageTells. Printed by genlaws.py. -/
import Derived.Test.YteanhakkceancaaIOpenB
import Derived.Test.YteanhakkceancaaILight
import Derived.Test.YteanhakkceancaaIWorks
import Derived.Test.YteanhakkceancaaBase
namespace Go.Proofs.Yteanhakkceancaa.Image
open Go Go.Proofs.Yteanhakkceancaa Go.Proofs.Yteanhakkceancaa.Eng Go.Proofs Go.Proofs.Yteanhakkceancaa.Word Go.Proofs.Yteanhakkceancaa.Fmt
open Go.Proofs.Yteanhakkceancaa.Pool (both own_low)
set_option maxRecDepth 10000

theorem ImageTells_ok (cs0 : List Value) (m : Mach) (S : Nat → Prop) (w : World) (hx : machR w S cs0 m) (hf : fMach m) (hk : kMach m) (hm : rMach m ≤ 1000000000) :
    Calls Try.prog 3 #[.agg cs0.toArray] w fun e w' => e = .returned (.bool true) ∧ New w w' := by
  have hx0 := hx
  obtain ⟨_, _, _, _, _, _, rfl, LO1, LT1, LH1, LM1, LI1, LU1⟩ := hx
  obtain ⟨O1, o1, _, rfl, _⟩ := LO1
  obtain ⟨T1, t1, _, rfl, _⟩ := LT1
  obtain ⟨H1, h1, _, rfl, _⟩ := LH1
  obtain ⟨M1, m1, _, rfl, _⟩ := LM1
  obtain ⟨I1, i1, _, rfl, _⟩ := LI1
  obtain ⟨U1, u1, _, rfl, _⟩ := LU1
  have hxw : ∀ {w' : World}, New w w' → machR w' S [zi m.status, .slice O1 m.objs.length o1, .slice T1 m.statics.length t1, .slice H1 m.thrs.length h1, .slice M1 m.mons.length m1, zi m.read, .slice I1 m.ins.length i1, .slice U1 m.outs.length u1, zi m.gone, zi m.steps] m := fun n => machOk.mod hx0 n.mod
  refine enter ok Try.func3 rfl rfl rfl ?_
  refine seq_cut (σ := Unit) (fun _ => [(1, .pointer (some ⟨w.heap.size, 0, none⟩))]) (fun _ w' => New w w' ∧ w'.heap[w.heap.size]? = some (.cells #[zi m.status, .slice O1 m.objs.length o1, .slice T1 m.statics.length t1, .slice H1 m.thrs.length h1, .slice M1 m.mons.length m1, zi m.read, .slice I1 m.ins.length i1, .slice U1 m.outs.length u1, zi m.gone, zi m.steps] 28 (0, 0))) ?_ ?_
  rotate_left
  · intro K hK
    exact hK () _ _ ⟨rfl, trivial⟩ ⟨New.alloc w _, heap_alloc_new w (.cells #[zi m.status, .slice O1 m.objs.length o1, .slice T1 m.statics.length t1, .slice H1 m.thrs.length h1, .slice M1 m.mons.length m1, zi m.read, .slice I1 m.ins.length i1, .slice U1 m.outs.length u1, zi m.gone, zi m.steps] 28)⟩
  rintro _ w1 fr1 ⟨n1, hM1⟩
  refine seq_cut (σ := Unit) (fun _ => [(1, .pointer (some ⟨w.heap.size, 0, none⟩))]) (fun _ w' => New w w' ∧ w'.heap[w.heap.size]? = some (.cells #[zi m.status, .slice O1 m.objs.length o1, .slice T1 m.statics.length t1, .slice H1 m.thrs.length h1, .slice M1 m.mons.length m1, zi m.read, .slice I1 m.ins.length i1, .slice U1 m.outs.length u1, zi m.gone, zi m.steps] 28 (0, 0)) ∧ cMach m ≤ 1000000) ?_ ?_
  rotate_left
  · intro K hK
    refine loadN_row (vs := [zi m.status, .slice O1 m.objs.length o1, .slice T1 m.statics.length t1, .slice H1 m.thrs.length h1, .slice M1 m.mons.length m1, zi m.read, .slice I1 m.ins.length i1, .slice U1 m.outs.length u1, zi m.gone, zi m.steps]) (rowB hM1) rfl ?_
    refine call_ (light_ok [zi m.status, .slice O1 m.objs.length o1, .slice T1 m.statics.length t1, .slice H1 m.thrs.length h1, .slice M1 m.mons.length m1, zi m.read, .slice I1 m.ins.length i1, .slice U1 m.outs.length u1, zi m.gone, zi m.steps] m S w1 (hxw n1)) ?_
    rintro e w2 ⟨b, rfl, hb, n2⟩
    refine ⟨_, rfl, ?_⟩
    cases b with
    | false => exact ⟨rfl, n1.trans n2⟩
    | true => exact hK () _ _ ⟨rfl, trivial⟩ ⟨n1.trans n2, n2.blk hM1, hb rfl⟩
  rintro _ w2 fr2 ⟨n2, hM2, hcost⟩
  refine seq_cut (σ := (Option Addr × Nat × Nat) × Int) (fun t => [(1, .pointer (some ⟨w.heap.size, 0, none⟩)), (3, .slice t.1.1 t.1.2.1 t.1.2.2), (4, zi t.2)]) (fun t w' => New w w' ∧ w'.heap[w.heap.size]? = some (.cells #[zi m.status, .slice O1 m.objs.length o1, .slice T1 m.statics.length t1, .slice H1 m.thrs.length h1, .slice M1 m.mons.length m1, zi m.read, .slice I1 m.ins.length i1, .slice U1 m.outs.length u1, zi m.gone, zi m.steps] 28 (0, 0)) ∧ t.2 = errOf m ∧ t.1.2.1 = (bytesOf m).length ∧ Row w' t.1.1 (bvs (bytesOf m))) ?_ ?_
  rotate_left
  · intro K hK
    refine loadN_row (vs := [zi m.status, .slice O1 m.objs.length o1, .slice T1 m.statics.length t1, .slice H1 m.thrs.length h1, .slice M1 m.mons.length m1, zi m.read, .slice I1 m.ins.length i1, .slice U1 m.outs.length u1, zi m.gone, zi m.steps]) (rowB hM2) rfl ?_
    refine call_ (Bytes_ok [zi m.status, .slice O1 m.objs.length o1, .slice T1 m.statics.length t1, .slice H1 m.thrs.length h1, .slice M1 m.mons.length m1, zi m.read, .slice I1 m.ins.length i1, .slice U1 m.outs.length u1, zi m.gone, zi m.steps] m S w2 (hxw n2) hf (by omega)) ?_
    rintro e w3 ⟨A3, c3, rfl, row3, _, _, n3⟩
    refine ⟨_, rfl, ?_⟩
    exact hK ((A3, (bytesOf m).length, c3), errOf m) _ _ ⟨rfl, rfl, rfl, trivial⟩ ⟨n2.trans n3, n3.blk hM2, rfl, rfl, row3⟩
  rintro ⟨⟨A3, q3, c3⟩, e3⟩ w3 fr3 ⟨n3, hM3, he3, hq3, row3⟩
  dsimp only at he3 hq3 row3
  refine seq_cut (σ := (Option Addr × Nat × Nat) × Int) (fun t => [(1, .pointer (some ⟨w.heap.size, 0, none⟩)), (3, .slice A3 q3 c3), (4, zi e3), (5, .slice t.1.1 t.1.2.1 t.1.2.2), (6, zi t.2)]) (fun t w' => New w w' ∧ t.2 = errOf m ∧ t.1.2.1 = (bytesOf m).length ∧ Row w' t.1.1 (bvs (bytesOf m)) ∧ Row w' A3 (bvs (bytesOf m))) ?_ ?_
  rotate_left
  · intro K hK
    refine loadN_row (vs := [zi m.status, .slice O1 m.objs.length o1, .slice T1 m.statics.length t1, .slice H1 m.thrs.length h1, .slice M1 m.mons.length m1, zi m.read, .slice I1 m.ins.length i1, .slice U1 m.outs.length u1, zi m.gone, zi m.steps]) (rowB hM3) rfl ?_
    refine call_ (rBytes_ok [zi m.status, .slice O1 m.objs.length o1, .slice T1 m.statics.length t1, .slice H1 m.thrs.length h1, .slice M1 m.mons.length m1, zi m.read, .slice I1 m.ins.length i1, .slice U1 m.outs.length u1, zi m.gone, zi m.steps] m S w3 (hxw n3) hf hk hm) ?_
    rintro e w4 ⟨A4, c4, rfl, row4, _, _, n4⟩
    refine ⟨_, rfl, ?_⟩
    exact hK ((A4, (bytesOf m).length, c4), errOf m) _ _ ⟨rfl, rfl, rfl, rfl, rfl, trivial⟩ ⟨n3.trans n4, rfl, rfl, row4, row3.new n4⟩
  rintro ⟨⟨A4, q4, c4⟩, e4⟩ w4 fr4 ⟨n4, he4, hq4, row4, row34⟩
  dsimp only at he4 hq4 row4
  refine call_ (Base.SameBytes_ok A3 A4 q3 c3 q4 c4 (bytesOf m) (bytesOf m) w4 hq3 hq4 row34 row4) ?_
  rintro e w5 ⟨rfl, hw5⟩
  obtain rfl := hw5.symm
  rw [decide_eq_true rfl]
  refine ⟨_, rfl, ?_⟩
  refine if_p (fun _ => ?_) (fun h => absurd (he3.trans he4.symm) h)
  refine call_ (works_ok w4) ?_
  rintro e w6 ⟨rfl, n6⟩
  refine ⟨_, rfl, ?_⟩
  exact ⟨rfl, n4.trans n6⟩

end Go.Proofs.Yteanhakkceancaa.Image

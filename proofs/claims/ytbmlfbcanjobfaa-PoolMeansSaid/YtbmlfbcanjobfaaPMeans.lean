/- The statement PoolMeans, walked. -/
import Derived.Test.YtbmlfbcanjobfaaPWalk11
namespace Go.Proofs.Ytbmlfbcanjobfaa.Pool
open Go Go.Proofs.Ytbmlfbcanjobfaa Go.Proofs.Ytbmlfbcanjobfaa.Eng Go.Proofs
set_option maxRecDepth 10000

theorem PoolMeans_ok (A : Option Addr) (n q : Nat) (l : List Ent) (i : Int) (w : World) (h : Pl w A n l) (hsz : n * 48 ≤ 140737488351232) :
    Calls Try.prog 4 #[.slice A n q, .int .i64 i] w fun e w' => e = .returned (.bool true) ∧ New w w' := by
  refine enter ok Try.func4 rfl rfl rfl ?_
  refine call_ (own_ok A n q l w h hsz) ?_
  rintro e w0 ⟨A0, c0, rfl, hp, n0⟩
  refine ⟨_, rfl, ?_⟩
  refine call_ (Text_ok A0 n c0 l i w0 hp) ?_
  rintro e w1 ⟨rfl, n1⟩
  refine ⟨_, rfl, ?_⟩
  have k1 := n0.trans n1
  refine call_ (RText_ok A n q l i w1 (h.new k1)) ?_
  rintro e w2 ⟨rfl, n2⟩
  refine ⟨_, rfl, ?_⟩
  have m2 := n1.trans n2
  refine call_ (Const_ok A0 n c0 l i w2 (hp.new m2)) ?_
  rintro e w3 ⟨rfl, n3⟩
  refine ⟨_, rfl, ?_⟩
  have m3 := m2.trans n3
  refine And.intro rfl ?_
  refine storeNew (vs := conCs (conC l i)) (arr := conZ) rfl (conCs_one _) ?_
  intro w4 hb4 n4 s4
  have m4 := m3.trans n4
  refine call_ (RConst_ok A n q l i w4 (h.new (n0.trans m4))) ?_
  rintro e w5 ⟨rfl, n5⟩
  refine ⟨_, rfl, ?_⟩
  have m5 := m4.trans n5
  refine And.intro rfl ?_
  refine storeNew (vs := conCs (conC l i)) (arr := conZ) rfl (conCs_one _) ?_
  intro w6 hb6 n6 s6
  have m6 := m5.trans n6
  refine if_p (fun _ => ?_) (fun h => absurd rfl h)
  refine if_p (fun _ => ?_) (fun h => absurd rfl h)
  refine loadN_row (vs := conCs (conC l i)) (rowB ((n5.trans n6).blk hb4)) rfl ?_
  refine loadN_row (vs := conCs (conC l i)) (rowB hb6) rfl ?_
  refine con_eql (p := conC l i) (q := conC l i) rfl rfl rfl ?_
  rw [decide_eq_true (show conC l i = conC l i from rfl)]
  refine if_p (fun _ => ?_) (fun h => absurd rfl h)
  refine call_ (SameEntries_ok A0 A n c0 n q l w6 (hp.new m6) (h.new (n0.trans m6))) ?_
  rintro e w7 ⟨rfl, n7⟩
  refine ⟨_, rfl, ?_⟩
  refine call_ (works_ok w7) ?_
  rintro e w8 ⟨rfl, n8⟩
  exact ⟨_, rfl, rfl, ((n0.trans m6).trans n7).trans n8⟩
end Go.Proofs.Ytbmlfbcanjobfaa.Pool

/- The statements SumSeals and SumBreaks, walked. -/
import Derived.Test.YtedinhcapfhlhaaDoorLawTells
namespace Go.Proofs.YtedinhcapfhlhaaDoor.Sum
open Go Go.Proofs.YtedinhcapfhlhaaDoor Go.Proofs.YtedinhcapfhlhaaDoor.Eng Go.Proofs
set_option maxRecDepth 10000

theorem SumSeals_ok (A : Option Addr) (n cc : Nat) (bs : List UInt8) (w : World) (ht : tbl w) (hn : n = bs.length) (hr : Row w A (bvs bs)) (hcc : n ≤ cc) :
    Calls Tryd.prog 4 #[.slice A n cc] w fun e w' => e = .returned (.bool true) ∧ New w w' := by
  refine enter ok Tryd.func4 rfl rfl rfl ?_
  refine seq_assign ?_
  refine seq_cut (σ := Unit) (fun _ => [(0, .slice A (min n 4000) cc)]) (fun _ w' => w' = w) ?_ ?_
  rotate_left
  · intro K hK
    refine if_p (fun h => ?_) (fun h => ?_)
    · refine And.intro (by decide) (And.intro (by show (4000 : Int) ≤ (cc : Int); omega) (hK () _ _ ⟨cut_val (N := 4000) (by omega), trivial⟩ rfl))
    · refine hK () _ _ ⟨?_, trivial⟩ rfl
      show Value.slice _ _ _ = _
      rw [Nat.min_eq_left (by omega)]
  rintro s w1 fr0 rfl
  have hn' : min n 4000 = (bs.take 4000).length := by rw [List.length_take, Nat.min_comm]; omega
  have hr' : Row w1 A (bvs (bs.take 4000)) := by rw [bvs_take]; exact hr.take _
  refine call_ (Base.Bytes_ok A _ _ _ w1 hn' hr' (by omega)) ?_
  rintro e w2 ⟨v, rfl, hown, h2⟩
  obtain ⟨A1, c1, rfl, hc1, _, row1, _⟩ := own_slice hown
  refine ⟨_, rfl, ?_⟩
  refine call_ (Seal_ok A1 _ _ _ w2 (ht.new h2) hn' row1 (by omega)) ?_
  rintro e w3 ⟨v, rfl, hown3, h3⟩
  obtain ⟨A3, c3, rfl, _, _, row3, _⟩ := own_slice hown3
  refine ⟨_, rfl, ?_⟩
  have h23 := h2.trans h3
  refine call_ (refSeal_ok A _ _ _ w3 hn' (hr'.new h23) (by omega)) ?_
  rintro e w4 ⟨v, rfl, hown4, h4⟩
  obtain ⟨A4, c4, rfl, _, _, row4, _⟩ := own_slice hown4
  refine ⟨_, rfl, ?_⟩
  have h24 := h23.trans h4
  have hl : min n 4000 + 4 = (sealed (bs.take 4000)).length := by rw [sealed_length, ← hn']
  refine call_ (Base.SameBytes_ok A3 A4 _ _ _ _ _ _ _ hl hl (row3.new h4) row4) ?_
  rintro e w5 ⟨rfl, rfl⟩
  refine ⟨_, rfl, ?_⟩
  refine if_yes (decide_eq_true rfl) ?_
  refine call_ (Right_ok A1 _ c1 _ _ (ht.new h24) hn' ((row1.new h3).new h4) (by omega) hc1) ?_
  rintro e w6 ⟨rfl, h6⟩
  refine ⟨_, rfl, ?_⟩
  have h26 := h24.trans h6
  refine call_ (refRight_ok A _ cc _ _ hn' (hr'.new h26) (by omega) (by omega)) ?_
  rintro e w7 ⟨rfl, h7⟩
  refine ⟨_, rfl, ?_⟩
  have h27 := h26.trans h7
  refine if_yes (decide_eq_true rfl) ?_
  refine call_ (Seal_ok A1 _ _ _ _ (ht.new h27) hn' ((((row1.new h3).new h4).new h6).new h7) (by omega)) ?_
  rintro e w8 ⟨v, rfl, hown8, h8⟩
  obtain ⟨A8, c8, rfl, hc8, _, row8, _⟩ := own_slice hown8
  refine ⟨_, rfl, ?_⟩
  have h28 := h27.trans h8
  have k9 := Right_ok A8 _ c8 _ _ (ht.new h28) hl row8 (by omega) hc8
  rw [right_sealed] at k9
  refine call_ k9 ?_
  rintro e w9 ⟨rfl, h9⟩
  refine ⟨_, rfl, ?_⟩
  have h29 := h28.trans h9
  refine call_ (works_ok _ (ht.new h29)) ?_
  rintro e w10 ⟨rfl, h10⟩
  exact ⟨_, rfl, rfl, h29.trans h10⟩
end Go.Proofs.YtedinhcapfhlhaaDoor.Sum

/- CodeDecodes, walked: any bytes are read, or refused, as the document says. -/
import Derived.Test.YtcpeekeiflglpaaCWorks
import Derived.Test.YtcpeekeiflglpaaCOpen
import Derived.Test.YtcpeekeiflglpaaCRef5
namespace Go.Proofs.Ytcpeekeiflglpaa.Code
open Go Go.Proofs.Ytcpeekeiflglpaa Go.Proofs.Ytcpeekeiflglpaa.Eng Go.Proofs Go.Proofs.Ytcpeekeiflglpaa.Word
set_option maxRecDepth 10000

theorem CodeDecodes_ok (A : Option Addr) (n c : Nat) (bs : List UInt8) (w : World) (hn : n = bs.length) (hr : Row w A (bvs bs)) (hc : n ≤ c) (hc2 : c ≤ 9223372036854775807) :
    Calls Try.prog 6 #[.slice A n c] w fun e w' => e = .returned (.bool true) ∧ New w w' := by
  subst hn
  refine enter ok Try.func6 rfl rfl rfl ?_
  refine seq_cut (σ := Unit) (fun _ => [(0, .slice A bs.length c)]) (fun _ w' => w' = w) ?_ ?_
  rotate_left
  · intro K hK
    exact hK () _ _ ⟨rfl, trivial⟩ rfl
  rintro _ w0 fr0 hw0
  obtain rfl := hw0.symm
  refine seq_cut (σ := List UInt8 × Nat) (fun t => [(0, .slice A t.2 c)]) (fun t w' => w' = w ∧ t.2 = t.1.length ∧ Row w A (bvs t.1) ∧ t.1.length ≤ c ∧ t.1.length ≤ 4097) ?_ ?_
  rotate_left
  · intro K hK
    refine if_p (fun h4 => ?_) (fun h4 => ?_)
    · replace h4 : (4097 : Int) < (bs.length : Int) := h4
      refine And.intro (by decide) (And.intro (by omega) ?_)
      have hl : (bs.take 4097).length = 4097 := by rw [List.length_take]; omega
      exact hK (bs.take 4097, 4097) _ _ ⟨rfl, trivial⟩ ⟨rfl, hl.symm, (by
        have e : bvs (bs.take 4097) = (bvs bs).take 4097 := by simp [bvs]
        rw [e]
        intro j u hu
        rw [List.getElem?_take] at hu
        split at hu
        · exact hr j u hu
        · cases hu), by dsimp only; omega, by dsimp only; omega⟩
    · replace h4 : ¬ (4097 : Int) < (bs.length : Int) := h4
      exact hK (bs, bs.length) _ _ ⟨rfl, trivial⟩ ⟨rfl, rfl, hr, hc, by dsimp only; omega⟩
  rintro ⟨xs, m⟩ w1 fr1 ⟨hw1, hm, hr1, hc1, hl1⟩
  dsimp only at hm hr1 hc1 hl1
  obtain rfl := hw1.symm
  clear hr hc
  refine seq_cut (σ := Option Addr × Nat) (fun t => [(0, .slice A m c), (3, .slice t.1 m t.2)]) (fun t w' => New w w' ∧ Row w' t.1 (bvs xs) ∧ xs.length ≤ t.2 ∧ t.2 ≤ 9223372036854775807) ?_ ?_
  rotate_left
  · intro K hK
    refine call_ (Base.Bytes_ok A m c xs w hm hr1 (by omega)) ?_
    rintro e w2 ⟨v, rfl, own2, n2⟩
    refine ⟨_, rfl, ?_⟩
    obtain ⟨A2, c2, rfl, h1, h2, row2, _⟩ := own_slice own2
    exact hK (A2, c2) _ _ ⟨rfl, rfl, trivial⟩ ⟨n2, row2, by dsimp only; omega, h2⟩
  rintro ⟨A2, c2⟩ w2 fr2 ⟨n2, row2, h21, h22⟩
  dsimp only at row2 h21 h22
  refine seq_cut (σ := (Option Addr × Nat × Nat) × Int) (fun t => [(0, .slice A m c), (3, .slice A2 m c2), (4, .slice t.1.1 t.1.2.1 t.1.2.2), (5, .int .i64 t.2)]) (fun t w' => New w w' ∧ Row w' A2 (bvs xs) ∧ t.2 = erOf xs ∧ ∃ l : List It, l.map (·.1) = lsOf xs ∧ Ct w' t.1.1 l ∧ t.1.2.1 = l.length) ?_ ?_
  rotate_left
  · intro K hK
    refine call_ (Decode_ok A2 m c2 xs w2 hm row2 h21 h22) ?_
    rintro e w3 ⟨l, A3, c3, hl, rfl, ct3, _, _, n3⟩
    refine ⟨_, rfl, ?_⟩
    exact hK ((A3, l.length, c3), erOf xs) _ _ ⟨rfl, rfl, rfl, rfl, trivial⟩ ⟨n2.trans n3, row2.new n3, rfl, l, hl, ct3, rfl⟩
  rintro ⟨⟨A3, m3, c3⟩, er⟩ w3 fr3 ⟨n3, row3, her, l, hl, ct3, hm3⟩
  dsimp only at her ct3 hm3
  refine seq_cut (σ := (Option Addr × Nat × Nat) × Int) (fun t => [(0, .slice A m c), (3, .slice A2 m c2), (4, .slice A3 m3 c3), (5, .int .i64 er), (6, .slice t.1.1 t.1.2.1 t.1.2.2), (7, .int .i64 t.2)]) (fun t w' => New w w' ∧ Row w' A2 (bvs xs) ∧ Ct w' A3 l ∧ t.2 = erOf xs ∧ ∃ l' : List It, l'.map (·.1) = lsOf xs ∧ Ct w' t.1.1 l' ∧ t.1.2.1 = l'.length) ?_ ?_
  rotate_left
  · intro K hK
    refine call_ (rDecode_ok A m c xs w3 hm (hr1.new n3) hc1 hc2) ?_
    rintro e w4 ⟨l', A4, c4, hl', rfl, ct4, _, _, n4⟩
    refine ⟨_, rfl, ?_⟩
    exact hK ((A4, l'.length, c4), erOf xs) _ _ ⟨rfl, rfl, rfl, rfl, rfl, rfl, trivial⟩ ⟨n3.trans n4, row3.new n4, ct3.new n4, rfl, l', hl', ct4, rfl⟩
  rintro ⟨⟨A4, m4, c4⟩, er2⟩ w4 fr4 ⟨n4, row4, ct3', her2, l', hl', ct4, hm4⟩
  dsimp only at her2 ct4 hm4
  have hll : l.length ≤ 4097 := by
    have h1 := congrArg List.length hl
    rw [List.length_map] at h1
    rw [h1]
    by_cases hd : erOf xs = 0
    · obtain ⟨_, hd'⟩ := er_zero.1 hd
      obtain ⟨_, hb, _, _⟩ := dec_bwd hd'
      have := code_len (lsOf xs) 0
      rw [← hb] at this
      omega
    · have : lsOf xs = [] := by
        unfold lsOf
        split
        · rfl
        · cases hd2 : dec xs with
          | none => rfl
          | some l2 =>
            exfalso
            apply hd
            unfold erOf
            rw [hd2]
            rename_i h4
            rw [if_neg h4]
      rw [this]
      exact Nat.zero_le _
  refine call_ (SameInstrs_ok A3 A4 m3 m4 c3 c4 l l' w4 hm3 hm4 ct3' ct4 (hl.trans hl'.symm) (by omega)) ?_
  rintro e w5 ⟨rfl, n5⟩
  refine ⟨_, rfl, ?_⟩
  refine if_p (fun _ => ?_) (fun h => absurd (her.trans her2.symm) h)
  refine call_ (Base.SameBytes_ok A2 A m c2 m c xs xs w5 hm hm (row4.new n5) (hr1.new (n4.trans n5))) ?_
  rintro e w6 ⟨rfl, hw6⟩
  obtain rfl := hw6.symm
  refine ⟨_, rfl, ?_⟩
  refine if_yes (decide_eq_true rfl) ?_
  refine call_ (works_ok w5) ?_
  rintro e w7 ⟨rfl, n7⟩
  refine ⟨_, rfl, ?_⟩
  exact ⟨rfl, (n4.trans n5).trans n7⟩
end Go.Proofs.Ytcpeekeiflglpaa.Code

/- CodeBack, walked: what is read is told again, and what is told is read. -/
import Derived.Test.YtcpeekeiflglpaaCWorks
import Derived.Test.YtcpeekeiflglpaaCOpen
namespace Go.Proofs.Ytcpeekeiflglpaa.Code
open Go Go.Proofs.Ytcpeekeiflglpaa Go.Proofs.Ytcpeekeiflglpaa.Eng Go.Proofs Go.Proofs.Ytcpeekeiflglpaa.Word
set_option maxRecDepth 10000

theorem light_ok (A : Option Addr) (n c : Nat) (ts : List It) (w : World) (hn : n = ts.length) (hr : Ct w A ts) (hl : ts.length ≤ 8796093022208) :
    Calls Try.prog 29 #[.slice A n c] w fun e w' => ∃ b, e = .returned (.bool b) ∧ (b = true → ts.length < 6000) ∧ w' = w := by
  subst hn
  refine enter ok Try.func29 rfl rfl rfl ?_
  refine den_loop (σ := Int × Nat) (fun t => [(0, .slice A ts.length c), (3, .int .i64 t.1), (4, .int .i64 (t.2 : Int))]) (fun m t wl => m + t.2 = ts.length ∧ (ts.length : Int) ≤ t.1 ∧ t.1 ≤ 17592186044416 ∧ wl = w) ts.length ((ts.length : Int), 0)
    ⟨rfl, rfl, rfl, trivial⟩ ⟨rfl, Int.le_refl _, by dsimp only; omega, rfl⟩ ?_
  rintro m ⟨q, i⟩ wl frl ⟨hfuel, hq, hq2, rfl⟩
  dsimp only at hfuel hq hq2
  have fin : ∃ b, Ending.returned (.bool (decide (q < 6000))) = .returned (.bool b) ∧ (b = true → ts.length < 6000) ∧ wl = wl := ⟨_, rfl, fun h => by have := of_decide_eq_true h; omega, rfl⟩
  refine if_p (fun hlt => ?_) (fun hge => ?_)
  · replace hlt : (i : Int) < (ts.length : Int) := hlt
    have hi : i < ts.length := by omega
    have hm1 : m - 1 + 1 = m := by omega
    refine if_p (fun h6 => ?_) (fun h6 => ?_)
    · replace h6 : q < 6000 := h6
      obtain ⟨⟨B, b, ev, _⟩, hcl⟩ := hr.cs _ (List.getElem_mem hi)
      obtain ⟨a, ea, hc⟩ := itF_row hr.row hi
      refine And.intro (by omega) (And.intro hlt ?_)
      refine some_at ea ?_
      refine Exists.intro B (Exists.intro ts[i].1.cs.length (Exists.intro b (And.intro (by rw [Int.toNat_natCast]; exact hc 4 _ (by rw [ev]; rfl)) ?_)))
      refine ⟨m - 1, (q + ts[i].1.cs.length, i + 1), by omega, ⟨rfl, ?_, ?_, trivial⟩, by dsimp only; omega, by dsimp only; omega, by dsimp only; omega, rfl⟩
      · show Value.int .i64 (IntKind.i64.wrap (q + (ts[i].1.cs.length : Int))) = _
        rw [wrap_i64 (by omega) (by omega)]
      · show Value.int .i64 (IntKind.i64.wrap ((i : Int) + 1)) = _
        rw [wrap_i64 (by omega) (by omega)]
        rfl
    · exact fin
  · exact fin
theorem CodeBack_ok (A : Option Addr) (n c : Nat) (bs : List UInt8) (A1 : Option Addr) (n1 c1 : Nat) (ts : List It) (w : World) (hn : n = bs.length) (hr : Row w A (bvs bs)) (hc : n ≤ c) (hc2 : c ≤ 9223372036854775807)
    (hn1 : n1 = ts.length) (hr1 : Ct w A1 ts) (hm1 : n1 * 56 ≤ 140737488355328) :
    Calls Try.prog 7 #[.slice A n c, .slice A1 n1 c1] w fun e w' => e = .returned (.bool true) ∧ New w w' := by
  subst hn hn1
  refine enter ok Try.func7 rfl rfl rfl ?_
  refine seq_cut (σ := Unit) (fun _ => [(0, .slice A bs.length c), (1, .slice A1 ts.length c1)]) (fun _ w' => w' = w) ?_ ?_
  rotate_left
  · intro K hK
    exact hK () _ _ ⟨rfl, rfl, trivial⟩ rfl
  rintro _ w0 fr0 hw0
  obtain rfl := hw0.symm
  refine seq_cut (σ := Unit) (fun _ => [(0, .slice A bs.length c), (1, .slice A1 ts.length c1)]) (fun _ w' => New w w') ?_ ?_
  rotate_left
  · intro K hK
    refine call_ (works_ok w) ?_
    rintro e w1 ⟨rfl, n1⟩
    refine ⟨_, rfl, ?_⟩
    exact hK () _ _ ⟨rfl, rfl, trivial⟩ n1
  rintro _ w1 fr1 n1
  refine seq_cut (σ := Unit) (fun _ => [(0, .slice A bs.length c), (1, .slice A1 ts.length c1)]) (fun _ w' => New w w' ∧ ts.length < 6000 ∧ bs.length ≤ 4096) ?_ ?_
  rotate_left
  · intro K hK
    refine if_p (fun h4 => ?_) (fun h4 => ?_)
    · exact ⟨rfl, n1⟩
    replace h4 : ¬ (4096 : Int) < (bs.length : Int) := h4
    refine call_ (light_ok A1 _ c1 ts w1 rfl (hr1.new n1) (by omega)) ?_
    rintro e w2 ⟨b, rfl, hb, hw2⟩
    obtain rfl := hw2.symm
    refine ⟨_, rfl, ?_⟩
    cases b with
    | false => exact ⟨rfl, n1⟩
    | true => exact hK () _ _ ⟨rfl, rfl, trivial⟩ ⟨n1, hb rfl, by omega⟩
  rintro _ w2 fr2 ⟨n2, hlen, hbl⟩
  -- bytes, read and told again
  refine seq_cut (σ := Unit) (fun _ => [(1, .slice A1 ts.length c1)]) (fun _ w' => New w w') ?_ ?_
  rotate_left
  · intro K hK
    refine seq_cut (σ := (Option Addr × Nat × Nat) × Int) (fun t => [(0, .slice A bs.length c), (1, .slice A1 ts.length c1), (5, .slice t.1.1 t.1.2.1 t.1.2.2), (6, .int .i64 t.2)]) (fun t w' => New w w' ∧ t.2 = erOf bs ∧ ∃ l : List It, l.map (·.1) = lsOf bs ∧ Ct w' t.1.1 l ∧ t.1.2.1 = l.length) ?_ ?_
    rotate_left
    · intro K2 hK2
      refine call_ (Decode_ok A _ c bs w2 rfl (hr.new n2) hc hc2) ?_
      rintro e w3 ⟨l, A3, c3, hl, rfl, ct3, _, _, n3⟩
      refine ⟨_, rfl, ?_⟩
      exact hK2 ((A3, l.length, c3), erOf bs) _ _ ⟨rfl, rfl, rfl, rfl, trivial⟩ ⟨n2.trans n3, rfl, l, hl, ct3, rfl⟩
    rintro ⟨⟨A3, m3, c3⟩, er⟩ w3 fr3 ⟨n3, her, l, hl, ct3, hm3⟩
    dsimp only at her ct3 hm3
    refine if_p (fun h0 => ?_) (fun h0 => ?_)
    · replace h0 : er = 0 := h0
      rw [h0] at her
      obtain ⟨hb4, hd⟩ := er_zero.1 her.symm
      have hlb : (lsOf bs).length ≤ bs.length := by
        obtain ⟨_, hb, _, _⟩ := dec_bwd hd
        have := code_len (lsOf bs) 0
        rw [← hb] at this
        exact this
      have henc : encR (l.map (·.1)) = some bs := by rw [hl]; exact encR_good hd hb4
      have hll : l.length ≤ 4096 := by
        have := congrArg List.length hl
        rw [List.length_map] at this
        omega
      refine call_ (Encode_ok A3 m3 c3 l w3 hm3 ct3 (by omega)) ?_
      rintro e w4 ⟨hout, n4⟩
      rw [henc] at hout
      obtain ⟨A4, c4, rfl, row4, _, _⟩ := hout
      refine ⟨_, rfl, ?_⟩
      have k4 := n3.trans n4
      refine call_ (Base.SameBytes_ok A4 A _ c4 _ c bs bs w4 rfl rfl row4 (hr.new k4)) ?_
      rintro e w5 ⟨rfl, hw5⟩
      obtain rfl := hw5.symm
      refine ⟨_, rfl, ?_⟩
      rw [decide_eq_true (rfl : bs = bs)]
      exact hK () _ _ ⟨rfl, trivial⟩ k4
    · exact hK () _ _ ⟨rfl, trivial⟩ n3
  rintro _ w3 fr3 n3
  -- instructions, told and read again
  refine call_ (Encode_ok A1 _ c1 ts w3 rfl (hr1.new n3) (by omega)) ?_
  rintro e w4 ⟨hout, n4⟩
  have k4 := n3.trans n4
  cases henc : encR (ts.map (·.1)) with
  | none =>
    rw [henc] at hout
    obtain ⟨er, her, rfl⟩ := hout
    refine ⟨_, rfl, ?_⟩
    refine if_n (fun _ => ?_) (fun h => absurd h her)
    exact ⟨rfl, k4⟩
  | some b =>
    rw [henc] at hout
    obtain ⟨A4, c4, rfl, row4, h41, h42⟩ := hout
    refine ⟨_, rfl, ?_⟩
    obtain ⟨hdb, hb4⟩ := encR_back henc
    refine call_ (Decode_ok A4 _ c4 b w4 rfl row4 h41 h42) ?_
    rintro e w5 ⟨l, A5, c5, hl, rfl, ct5, _, _, n5⟩
    refine ⟨_, rfl, ?_⟩
    have k5 := k4.trans n5
    have hls : lsOf b = ts.map (·.1) := by
      unfold lsOf
      rw [if_neg (by omega), hdb]
      rfl
    have her : erOf b = 0 := er_zero.2 ⟨hb4, by rw [hdb, hls]⟩
    refine if_p (fun _ => ?_) (fun h => absurd her h)
    have hll : l.length = ts.length := by
      have := congrArg List.length (hl.trans hls)
      simpa using this
    refine call_ (SameInstrs_ok A5 A1 _ _ c5 c1 l ts w5 rfl rfl ct5 (hr1.new k5) (hl.trans hls) (by omega)) ?_
    rintro e w6 ⟨rfl, n6⟩
    refine ⟨_, rfl, ?_⟩
    exact ⟨rfl, k5.trans n6⟩
end Go.Proofs.Ytcpeekeiflglpaa.Code

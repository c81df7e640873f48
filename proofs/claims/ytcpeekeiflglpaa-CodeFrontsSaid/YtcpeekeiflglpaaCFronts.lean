/- CodeFronts, walked: a code's beginning, cut where an instruction begins. -/
import Derived.Test.YtcpeekeiflglpaaCWorks
namespace Go.Proofs.Ytcpeekeiflglpaa.Code
open Go Go.Proofs.Ytcpeekeiflglpaa Go.Proofs.Ytcpeekeiflglpaa.Eng Go.Proofs Go.Proofs.Ytcpeekeiflglpaa.Word
set_option maxRecDepth 10000

theorem dec_len {bs : List UInt8} {l : List Ins} (h : dec bs = some l) : l.length ≤ bs.length := by
  obtain ⟨_, hb, _, _⟩ := dec_bwd h
  have := code_len l 0
  rw [← hb] at this
  exact this
/-- Where the first few end. -/
def cutAt (bs : List UInt8) (l : List Ins) (k : Nat) : Nat := (codeB 0 (l.take k)).length
theorem cut_le {bs : List UInt8} {l : List Ins} (h : dec bs = some l) (k : Nat) : cutAt bs l k ≤ bs.length := by
  obtain ⟨_, hb, _, _⟩ := dec_bwd h
  have := code_rise (l := l) (p := 0) (i := k) (j := k + l.length) (by omega)
  rw [List.take_of_length_le (show l.length ≤ k + l.length by omega), ← hb] at this
  exact this
theorem cut_at {bs : List UInt8} {l : List Ins} (h : dec bs = some l) {k : Nat} (hk : k < l.length) : l[k].p = (cutAt bs l k : Int) := by
  obtain ⟨hc, _, _, _⟩ := dec_bwd h
  rw [chain_p l 0 k hc hk, Nat.zero_add]
  rfl
theorem cut_end {bs : List UInt8} {l : List Ins} (h : dec bs = some l) {k : Nat} (hk : l.length ≤ k) : cutAt bs l k = bs.length := by
  obtain ⟨_, hb, _, _⟩ := dec_bwd h
  unfold cutAt
  rw [List.take_of_length_le hk, ← hb]
def outB (l : List Ins) (n : Nat) : Bool := l.any fun x => (targets x).any fun t => decide ((n : Int) ≤ t)
theorem cut_dec {bs : List UInt8} {l : List Ins} (h : dec bs = some l) {k : Nat} (h1 : 1 ≤ k) (hk : k ≤ l.length) : dec (bs.take (cutAt bs l k)) = if outB (l.take k) (cutAt bs l k) = true then none else some (l.take k) := by
  obtain ⟨hc, hb, _, hl⟩ := dec_bwd h
  obtain ⟨f1, f2⟩ := front hc hl h1 hk
  have : bs.take (cutAt bs l k) = codeB 0 (l.take k) := by
    rw [← f1]
    unfold cutAt
    rw [← hb]
  rw [this]
  exact f2
theorem CodeFronts_ok (A : Option Addr) (n c : Nat) (bs : List UInt8) (cut : Int) (w : World) (hn : n = bs.length) (hr : Row w A (bvs bs)) (hc : n ≤ c) (hc2 : c ≤ 9223372036854775807) :
    Calls Try.prog 8 #[.slice A n c, .int .i64 cut] w fun e w' => e = .returned (.bool true) ∧ New w w' := by
  subst hn
  refine enter ok Try.func8 rfl rfl rfl ?_
  refine seq_cut (σ := Unit) (fun _ => [(0, .slice A bs.length c), (1, .int .i64 cut)]) (fun _ w' => w' = w) ?_ ?_
  rotate_left
  · intro K hK
    exact hK () _ _ ⟨rfl, rfl, trivial⟩ rfl
  rintro _ w0 fr0 hw0
  obtain rfl := hw0.symm
  refine seq_cut (σ := Unit) (fun _ => [(0, .slice A bs.length c), (1, .int .i64 cut)]) (fun _ w' => New w w') ?_ ?_
  rotate_left
  · intro K hK
    refine call_ (works_ok w) ?_
    rintro e w1 ⟨rfl, n1⟩
    refine ⟨_, rfl, ?_⟩
    exact hK () _ _ ⟨rfl, rfl, trivial⟩ n1
  rintro _ w1 fr1 n1
  refine seq_cut (σ := Unit) (fun _ => [(0, .slice A bs.length c), (1, .int .i64 cut)]) (fun _ w' => New w w' ∧ bs.length ≤ 600) ?_ ?_
  rotate_left
  · intro K hK
    refine if_p (fun h4 => ?_) (fun h4 => ?_)
    · exact ⟨rfl, n1⟩
    replace h4 : ¬ (600 : Int) < (bs.length : Int) := h4
    exact hK () _ _ ⟨rfl, rfl, trivial⟩ ⟨n1, by omega⟩
  rintro _ w2 fr2 ⟨n2, hbl⟩
  refine seq_cut (σ := (Option Addr × Nat × Nat) × Int) (fun t => [(0, .slice A bs.length c), (1, .int .i64 cut), (5, .slice t.1.1 t.1.2.1 t.1.2.2), (6, .int .i64 t.2)]) (fun t w' => New w w' ∧ t.2 = erOf bs ∧ ∃ l : List It, l.map (·.1) = lsOf bs ∧ Ct w' t.1.1 l ∧ t.1.2.1 = l.length ∧ l.length ≤ t.1.2.2 ∧ t.1.2.2 ≤ 9223372036854775807) ?_ ?_
  rotate_left
  · intro K hK
    refine call_ (Decode_ok A _ c bs w2 rfl (hr.new n2) hc hc2) ?_
    rintro e w3 ⟨l, A3, c3, hl, rfl, ct3, h31, h32, n3⟩
    refine ⟨_, rfl, ?_⟩
    exact hK ((A3, l.length, c3), erOf bs) _ _ ⟨rfl, rfl, rfl, rfl, trivial⟩ ⟨n2.trans n3, rfl, l, hl, ct3, rfl, h31, h32⟩
  rintro ⟨⟨A3, m3, c3⟩, er⟩ w3 fr3 ⟨n3, her, ts, hl, ct3, hm3, h31, h32⟩
  dsimp only at her ct3 hm3 h31 h32
  subst hm3
  refine seq_cut (σ := Unit) (fun _ => [(0, .slice A bs.length c), (1, .int .i64 cut), (5, .slice A3 ts.length c3)]) (fun _ w' => w' = w3 ∧ er = 0) ?_ ?_
  rotate_left
  · intro K hK
    refine if_n (fun hne => ?_) (fun h0 => ?_)
    · replace hne : ¬ er = 0 := hne
      have hnil : lsOf bs = [] := by
        unfold lsOf
        split
        · rfl
        · rename_i h4
          unfold erOf at her
          rw [if_neg h4] at her
          cases hd : dec bs with
          | none => rfl
          | some l =>
            rw [hd] at her
            exact absurd her hne
      have hts : ts.length = 0 := by
        have := congrArg List.length (hl.trans hnil)
        simpa using this
      refine ⟨?_, n3⟩
      show Ending.returned (.bool (decide ((ts.length : Int) = 0))) = _
      rw [decide_eq_true (by omega)]
    · exact hK () _ _ ⟨rfl, rfl, rfl, trivial⟩ ⟨rfl, h0⟩
  rintro _ w3' fr4 ⟨rfl, h0⟩
  rw [h0] at her
  obtain ⟨hb4, hd⟩ := er_zero.1 her.symm
  clear her h0
  rw [← hl] at hd
  have hlen : ts.length ≤ bs.length := by
    have := dec_len hd
    simpa using this
  have hpos : 1 ≤ ts.length := by
    obtain ⟨_, _, hne, _⟩ := dec_bwd hd
    rcases Nat.eq_zero_or_pos ts.length with h | h
    · exact absurd (by rw [List.length_eq_zero_iff.1 h]; rfl) hne
    · exact h
  -- how many
  refine seq_cut (σ := Nat) (fun k => [(0, .slice A bs.length c), (5, .slice A3 ts.length c3), (7, .int .i64 (k : Int))]) (fun k w' => w' = w3' ∧ 1 ≤ k ∧ k ≤ ts.length) ?_ ?_
  rotate_left
  · intro K hK
    refine call_ (Among_ok cut (ts.length : Int) w3' (by omega)) ?_
    rintro e w4 ⟨k, rfl, hk, hw4⟩
    obtain rfl := hw4.symm
    refine ⟨_, rfl, ?_⟩
    refine hK (k + 1) _ _ ⟨rfl, rfl, ?_, trivial⟩ ⟨rfl, by omega, by omega⟩
    show Value.int .i64 (IntKind.i64.wrap (1 + (k : Int))) = .int .i64 ((k + 1 : Nat) : Int)
    rw [wrap_i64 (by omega) (by omega)]
    congr 1
    omega
  rintro k w4 fr5 ⟨rfl, hk1, hk2⟩
  refine seq_cut (σ := Unit) (fun _ => [(0, .slice A bs.length c), (5, .slice A3 ts.length c3), (7, .int .i64 (k : Int)), (8, .int .i64 (bs.length : Int))]) (fun _ w' => w' = w4) ?_ ?_
  rotate_left
  · intro K hK
    exact hK () _ _ ⟨rfl, rfl, rfl, rfl, trivial⟩ rfl
  rintro _ w4' fr6 rfl
  have hml : (ts.map (·.1)).length = ts.length := List.length_map ..
  -- where they end
  refine seq_cut (σ := Unit) (fun _ => [(0, .slice A bs.length c), (5, .slice A3 ts.length c3), (7, .int .i64 (k : Int)), (8, .int .i64 (cutAt bs (ts.map (·.1)) k : Int))]) (fun _ w' => w' = w4') ?_ ?_
  rotate_left
  · intro K hK
    refine if_p (fun hlt => ?_) (fun hge => ?_)
    · replace hlt : (k : Int) < (ts.length : Int) := hlt
      have hki : k < ts.length := by omega
      obtain ⟨a, ea, hcell⟩ := itF_row ct3.row hki
      refine And.intro (by omega) (And.intro hlt ?_)
      refine some_at ea ?_
      have hp := cut_at hd (k := k) (by omega)
      rw [List.getElem_map] at hp
      refine Exists.intro (cutAt bs (ts.map (·.1)) k : Int) (And.intro (by rw [Int.toNat_natCast, ← hp]; exact hcell 0 _ rfl) ?_)
      exact hK () _ _ ⟨rfl, rfl, rfl, rfl, trivial⟩ rfl
    · replace hge : ¬ (k : Int) < (ts.length : Int) := hge
      refine hK () _ _ ⟨rfl, rfl, rfl, ?_, trivial⟩ rfl
      show Value.int .i64 (bs.length : Int) = _
      rw [cut_end hd (by omega)]
  rintro _ w5 fr7 rfl
  have hcut := cut_le hd k
  have hcd := cut_dec hd hk1 (by omega)
  generalize cutAt bs (ts.map (·.1)) k = q at hcut hcd
  refine seq_assign ?_
  have hk600 : k ≤ 600 := by omega
  -- whether a branch leads out
  refine seq_cut (σ := Bool) (fun b => [(0, .slice A bs.length c), (5, .slice A3 ts.length c3), (7, .int .i64 (k : Int)), (8, .int .i64 (q : Int)), (9, .bool b)]) (fun b w' => New w5 w' ∧ b = outB ((ts.map (·.1)).take k) q) ?_ ?_
  rotate_left
  · intro K hK
    refine den_loop (σ := Bool × Nat) (fun t => [(0, .slice A bs.length c), (5, .slice A3 ts.length c3), (7, .int .i64 (k : Int)), (8, .int .i64 (q : Int)), (9, .bool t.1), (10, .int .i64 (t.2 : Int))])
      (fun m t wl => m + t.2 = k ∧ New w5 wl ∧ t.1 = outB ((ts.map (·.1)).take t.2) q) k (false, 0) ⟨rfl, rfl, rfl, rfl, rfl, rfl, trivial⟩ ⟨rfl, New.refl _, rfl⟩ ?_
    rintro m ⟨b, i⟩ wl frl ⟨hfuel, kl, hb⟩
    dsimp only at hfuel hb
    refine if_p (fun hlt => ?_) (fun hge => ?_)
    · replace hlt : (i : Int) < (k : Int) := hlt
      have hi : i < ts.length := by omega
      obtain ⟨m, rfl⟩ : ∃ m', m = m' + 1 := ⟨m - 1, by omega⟩
      have inc : Value.int .i64 (IntKind.i64.wrap ((i : Int) + 1)) = .int .i64 ((i + 1 : Nat) : Int) := by
        rw [wrap_i64 (by omega) (by omega)]
        rfl
      have ctl := ct3.new kl
      obtain ⟨a, ea, hcell⟩ := itF_row ctl.row hi
      refine And.intro (by omega) (And.intro (by omega) ?_)
      refine some_at ea ?_
      refine loadN_row (vs := insC ts[i].1 ts[i].2) (fun k u hu => by rw [Int.toNat_natCast]; exact hcell k u hu) rfl ?_
      refine call_ (Targets_ok ts[i].1 ts[i].2 wl (ctl.cs _ (List.getElem_mem hi))) ?_
      rintro e w6 ⟨A6, c6, rfl, row6, hl6, n6⟩
      refine ⟨_, rfl, ?_⟩
      have hstep : outB ((ts.map (·.1)).take (i + 1)) q = (b || (targets ts[i].1).any fun t => decide ((q : Int) ≤ t)) := by
        rw [hb, List.take_succ_eq_append_getElem (by simpa using hi), List.getElem_map]
        unfold outB
        rw [List.any_append]
        simp
      generalize targets ts[i].1 = zs at row6 hl6 hstep
      refine den_loop (σ := Bool × Nat) (fun t => [(0, .slice A bs.length c), (5, .slice A3 ts.length c3), (7, .int .i64 (k : Int)), (8, .int .i64 (q : Int)), (9, .bool t.1), (10, .int .i64 (i : Int)), (11, .slice A6 zs.length c6), (12, .int .i64 (t.2 : Int))])
        (fun p t wk => p + t.2 = zs.length ∧ New w6 wk ∧ t.1 = (b || (zs.take t.2).any fun t => decide ((q : Int) ≤ t))) zs.length (b, 0) ⟨rfl, rfl, rfl, rfl, rfl, rfl, rfl, rfl, trivial⟩ ⟨rfl, New.refl _, by simp⟩ ?_
      rintro p ⟨b2, j⟩ wk frk ⟨hp, kk, hb2⟩
      dsimp only at hp hb2
      refine if_p (fun hj => ?_) (fun hj => ?_)
      · replace hj : (j : Int) < (zs.length : Int) := hj
        have hjl : j < zs.length := by omega
        obtain ⟨p, rfl⟩ : ∃ p', p = p' + 1 := ⟨p - 1, by omega⟩
        have incj : Value.int .i64 (IntKind.i64.wrap ((j : Int) + 1)) = .int .i64 ((j + 1 : Nat) : Int) := by
          rw [wrap_i64 (by omega) (by omega)]
          rfl
        have hnext : (b || (zs.take (j + 1)).any fun t => decide ((q : Int) ≤ t)) = (b2 || decide ((q : Int) ≤ zs[j])) := by
          rw [hb2, List.take_succ_eq_append_getElem hjl, List.any_append]
          simp [Bool.or_assoc]
        refine if_ (fun hx => ?_) (fun hx => ?_)
        · replace hx : b2 = true := hx
          exact ⟨p, (true, j + 1), by omega, ⟨rfl, rfl, rfl, rfl, rfl, rfl, rfl, incj, trivial⟩, by dsimp only; omega, kk, by dsimp only; rw [hnext, hx, Bool.true_or]⟩
        · replace hx : b2 = false := hx
          obtain ⟨aj, rfl, hcj⟩ := (row6.new kk) j (.int .i64 zs[j]) (by simp [ivs, hjl])
          refine And.intro (by omega) (And.intro hj ?_)
          refine Exists.intro zs[j] (And.intro (by rw [Int.toNat_natCast, Nat.mul_one]; exact hcj) ?_)
          exact ⟨p, (decide ((q : Int) ≤ zs[j]), j + 1), by omega, ⟨rfl, rfl, rfl, rfl, rfl, rfl, rfl, incj, trivial⟩, by dsimp only; omega, kk, by dsimp only; rw [hnext, hx, Bool.false_or]⟩
      · replace hj : ¬ (j : Int) < (zs.length : Int) := hj
        rw [List.take_of_length_le (by omega)] at hb2
        exact ⟨m, (b2, i + 1), by omega, ⟨rfl, rfl, rfl, rfl, rfl, inc, trivial⟩, by dsimp only; omega, (kl.trans n6).trans kk, by dsimp only; rw [hstep, hb2]⟩
    · replace hge : ¬ (i : Int) < (k : Int) := hge
      obtain rfl : i = k := by omega
      exact hK b _ _ ⟨rfl, rfl, rfl, rfl, rfl, trivial⟩ ⟨kl, hb⟩
  rintro b w6 fr8 ⟨n6, hb⟩
  have k6 := n3.trans n6
  refine seq_cut (σ := (Option Addr × Nat × Nat) × Int) (fun t => [(5, .slice A3 ts.length c3), (7, .int .i64 (k : Int)), (9, .bool b), (13, .slice t.1.1 t.1.2.1 t.1.2.2), (14, .int .i64 t.2)]) (fun t w' => New w6 w' ∧ t.2 = erOf (bs.take q) ∧ ∃ l : List It, l.map (·.1) = lsOf (bs.take q) ∧ Ct w' t.1.1 l ∧ t.1.2.1 = l.length) ?_ ?_
  rotate_left
  · intro K hK
    refine And.intro (by omega) (And.intro (by omega) ?_)
    have hrow : Row w6 A (bvs (bs.take q)) := by
      have := (hr.new k6).take q
      rwa [show (bvs bs).take q = bvs (bs.take q) by simp [bvs]] at this
    have hql : (bs.take q).length = q := by rw [List.length_take]; omega
    refine call_ (Decode_ok A _ c (bs.take q) w6 (by rw [Int.toNat_natCast, hql]) hrow (by omega) hc2) ?_
    rintro e w7 ⟨l, A7, c7, hl7, rfl, ct7, _, _, n7⟩
    refine ⟨_, rfl, ?_⟩
    exact hK ((A7, l.length, c7), erOf (bs.take q)) _ _ ⟨rfl, rfl, rfl, rfl, rfl, trivial⟩ ⟨n7, rfl, l, hl7, ct7, rfl⟩
  rintro ⟨⟨A7, m7, c7⟩, er7⟩ w7 fr9 ⟨n7, her7, l7, hl7, ct7, hm7⟩
  dsimp only at her7 ct7 hm7
  have k7 := k6.trans n7
  have hql : (bs.take q).length ≤ 4096 := by rw [List.length_take]; omega
  have hls7 : lsOf (bs.take q) = (dec (bs.take q)).getD [] := by unfold lsOf; rw [if_neg (by omega)]
  have her7' : erOf (bs.take q) = (match dec (bs.take q) with
    | none => 90
    | some _ => 0) := by
    unfold erOf
    rw [if_neg (by omega)]
    rfl
  rw [hcd, ← hb] at hls7 her7'
  cases b with
  | true =>
    rw [if_pos rfl] at hls7 her7'
    replace her7' : erOf (bs.take q) = 90 := her7'
    rw [her7'] at her7
    rw [hls7] at hl7
    have hz : l7.length = 0 := by
      have := congrArg List.length hl7
      simpa using this
    refine if_p (fun _ => ?_) (fun h => absurd her7 h)
    refine ⟨?_, k7⟩
    show Ending.returned (.bool (decide ((m7 : Int) = 0))) = _
    rw [decide_eq_true (by omega)]
  | false =>
    rw [if_neg (by decide)] at hls7 her7'
    replace her7' : erOf (bs.take q) = 0 := her7'
    rw [her7'] at her7
    rw [hls7] at hl7
    refine if_p (fun _ => ?_) (fun h => absurd her7 h)
    refine And.intro (by omega) (And.intro (by omega) ?_)
    have ctk : Ct w7 A3 (ts.take k) := by
      refine ⟨?_, fun t ht => (ct3.new (n6.trans n7)).cs t (List.mem_of_mem_take ht)⟩
      have := (ct3.new (n6.trans n7)).row.take (k * 5)
      have e : (itF ts).take (k * 5) = itF (ts.take k) := by
        have h1 : itF ts = itF (ts.take k) ++ itF (ts.drop k) := by
          rw [← List.flatten_append, ← List.map_append, List.take_append_drop]
        have h2 : (itF (ts.take k)).length = k * 5 := by
          rw [itF_len, List.length_take]
          congr 1
          omega
        rw [h1, List.take_left' h2]
      rwa [e] at this
    have hlk : (ts.take k).length = k := by rw [List.length_take]; omega
    have hl7k : l7.length = k := by
      have := congrArg List.length hl7
      simp at this
      omega
    refine call_ (SameInstrs_ok A7 A3 m7 _ c7 c3 l7 (ts.take k) w7 hm7 (by rw [Int.toNat_natCast, hlk]) ct7 ctk (by rw [hl7]; simp) (by omega)) ?_
    rintro e w8 ⟨rfl, n8⟩
    refine ⟨_, rfl, ?_⟩
    exact ⟨rfl, k7.trans n8⟩
end Go.Proofs.Ytcpeekeiflglpaa.Code

/- The statement DiskWhole, walked. -/
import Derived.Test.YtgfdpojpcpgddaaDoorDSure
namespace Go.Proofs.YtgfdpojpcpgddaaDoor.Disk
open Go Go.Proofs.YtgfdpojpcpgddaaDoor Go.Proofs.YtgfdpojpcpgddaaDoor.Eng Go.Proofs
set_option maxRecDepth 10000

theorem flat_cut (l : List Sec) (h : ∀ x ∈ l, x.length = 256) : ∀ (i : Nat) (hi : i < l.length), (l.flatten.drop (i * 256)).take 256 = l[i] := by
  induction l with
  | nil => intro i hi; exact absurd hi (Nat.not_lt_zero _)
  | cons x r ih =>
    intro i hi
    have hx := h x List.mem_cons_self
    cases i with
    | zero =>
      rw [List.flatten_cons, Nat.zero_mul, List.drop_zero, List.take_left' hx]
      rfl
    | succ i =>
      have e : (i + 1) * 256 = x.length + i * 256 := by rw [hx]; omega
      rw [List.flatten_cons, e, List.drop_append, List.drop_eq_nil_of_le (by omega), Nat.add_sub_cancel_left, List.nil_append]
      exact ih (fun y hy => h y (List.mem_cons_of_mem _ hy)) i (by simpa using hi)
theorem row_cut {w : World} {A : Option Addr} {bs : List UInt8} {c : Nat} (hr : Row w A (bvs bs)) (hc : bs.length ≤ c) (i n : Nat) : Row w (slA A c i 1) (bvs ((bs.drop i).take n)) := by
  have := (hr.cut c i 1 (by rw [bvs_length]; omega)).take n
  rw [Nat.mul_one] at this
  have e : bvs ((bs.drop i).take n) = ((bvs bs).drop i).take n := by simp [bvs, List.map_drop, List.map_take]
  rw [e]
  exact this
/-- Is a sector what was sure, or one of what was stored to it? -/
def okTo (later : List ActV) (x sl : Sec) (at_ : Nat) (i : Nat) : Bool := decide (x = sl) || (later.take i).any fun a => decide (Base.among a.at_ 4 = (at_ : Int)) && decide (x = rep a.b)
theorem okTo_step (later : List ActV) (x sl : Sec) (at_ : Nat) (i : Nat) (h : i < later.length) : okTo later x sl at_ (i + 1) = (okTo later x sl at_ i || (decide (Base.among later[i].at_ 4 = (at_ : Int)) && decide (x = rep later[i].b))) := by
  unfold okTo
  rw [List.take_succ_eq_append_getElem h, List.any_append, List.any_cons, List.any_nil, Bool.or_false, Bool.or_assoc]

theorem DiskWhole_ok (D1 : Option Addr) (n1 c1 : Nat) (acts : List ActV) (D2 : Option Addr) (n2 c2 : Nat) (later : List ActV) (K : Option Addr) (kn kc : Nat) (kept : List Int) (w : World)
    (hn1 : n1 = acts.length) (hd1 : Rows2 w D1 6 (acts.map ActV.cells)) (hn2 : n2 = later.length) (hd2 : Rows2 w D2 6 (later.map ActV.cells)) (hkn : kn = kept.length) (hk : Row w K (ivs kept)) :
    Calls Tryd.prog 5 #[.slice D1 n1 c1, .slice D2 n2 c2, .slice K kn kc] w fun e w' => e = .returned (.bool true) ∧ New w w' := by
  refine enter ok Tryd.func5 rfl rfl rfl ?_
  refine call_ (works_ok w) ?_
  rintro e w0 ⟨b0, rfl, rfl, n0⟩
  refine ⟨_, rfl, ?_⟩
  have hd1' : Rows2 w0 D1 6 (acts.map ActV.cells) := fun i cs hi => by
    obtain ⟨h1, a, h2, h3⟩ := hd1 i cs hi
    exact ⟨h1, a, h2, fun k u hu => n0.cell (h3 k u hu)⟩
  refine call_ (stored_ok D1 n1 c1 acts w0 hn1 hd1') ?_
  rintro e w1 ⟨g, q, vs1, rfl, d1, m1⟩
  refine ⟨_, rfl, ?_⟩
  have hin1 : Inv 80 (runs (fresh 4) (acts.take 80)) := (inv_runs (fresh 4) 0 inv_fresh (acts.take 80)).mono (by rw [List.length_take]; omega)
  have hfr1 : Free (runs (fresh 4) (acts.take 80)) := free_runs _ (free_fresh 4) _
  generalize runs (fresh 4) (acts.take 80) = s1 at d1 hin1 hfr1
  have hB := Barrier_ok w0.heap.size g q vs1 s1 w1 d1 (hin1.fine (by omega)) (by rw [hin1.len]; decide) (by rw [hin1.len]; decide) (hin1.lim (by omega))
  rw [if_pos hfr1.can] at hB
  refine call_ hB ?_
  rintro e w2 ⟨rfl, vs2, d2, m2, f2⟩
  refine ⟨_, rfl, ?_⟩
  have hin2 := bar_inv hin1
  have hid2 := bar_Idle hfr1
  have hfr2 := bar_free hfr1
  have k2 : New w0 w2 := d1.newD m1 m2
  generalize barDS s1 = s2 at d2 hin2 hid2 hfr2
  refine call_ (Dump_ok w0.heap.size g q vs2 s2 w2 d2 (by rw [hin2.len]; decide)) ?_
  rintro e w3 ⟨v3, rfl, own3, n3⟩
  obtain ⟨A3, c3, rfl, hc3, ht3, row3, hA3⟩ := own_slice own3
  refine ⟨_, rfl, ?_⟩
  have was3 := d2.kept_dump hin2 rfl own3
  have d3 := d2.new n3
  have k3 := k2.trans n3
  have hdl : (dump s2.cs).length = 1024 := by rw [dump_len _ d2.oks, hin2.len]
  have hsl : ∀ x ∈ sures s2, x.length = 256 := by
    intro x hx
    obtain ⟨c, hc, rfl⟩ := List.mem_map.1 hx
    exact (d2.oks c hc).sure
  have hsn : (sures s2).length = 4 := by unfold sures; rw [List.length_map]; exact hin2.len
  refine seq_cut (σ := Nat → Value) (fun _ => [(1, .slice D2 n2 c2), (2, .slice K kn kc), (7, .pointer (some ⟨g, 0, none⟩)), (8, .slice A3 (dump s2.cs).length c3)])
    (fun t wl => Dk wl w0.heap.size g q t (stores s2 (later.take 80)) ∧ New w0 wl ∧ Kept wl (DSet g q 4 t) A3 (dump s2.cs)) ?_ ?_
  rotate_left
  · intro K' hK
    have fin : ∀ i, (i = later.length ∧ i ≤ 80 ∨ i = 80) → later.take i = later.take 80 := by
      rintro i (⟨h, h2⟩ | h)
      · rw [List.take_of_length_le (by omega), List.take_of_length_le (by omega)]
      · rw [h]
    refine den_loop (σ := Nat × (Nat → Value)) (fun t => [(1, .slice D2 n2 c2), (2, .slice K kn kc), (7, .pointer (some ⟨g, 0, none⟩)), (8, .slice A3 (dump s2.cs).length c3), (9, .int .i64 t.1)])
      (fun m t wl => t.1 ≤ n2 ∧ t.1 ≤ 80 ∧ m = 80 - t.1 ∧ Dk wl w0.heap.size g q t.2 (stores s2 (later.take t.1)) ∧ New w0 wl ∧ Kept wl (DSet g q 4 t.2) A3 (dump s2.cs)) 80 (0, vs2) ⟨rfl, rfl, rfl, rfl, rfl, trivial⟩ ⟨Nat.zero_le _, Nat.zero_le _, rfl, d3, k3, was3⟩ ?_
    rintro m ⟨i, vs⟩ wl fr0 ⟨hi, hi80, rfl, hk', nl, was⟩
    dsimp only at hi hi80 hk' nl was
    have hinv := stores_inv hin2 (later.take i)
    rw [List.length_take] at hinv
    refine if_p (fun hlt => ?_) (fun hge => ?_)
    rotate_left
    · replace hge : ¬ (i : Int) < n2 := hge
      rw [fin i (.inl ⟨by omega, hi80⟩)] at hk'
      exact hK vs _ _ ⟨rfl, rfl, rfl, rfl, trivial⟩ ⟨hk', nl, was⟩
    refine if_p (fun hlt2 => ?_) (fun hge2 => ?_)
    rotate_left
    · replace hge2 : ¬ (i : Int) < 80 := hge2
      rw [fin i (.inr (by omega))] at hk'
      exact hK vs _ _ ⟨rfl, rfl, rfl, rfl, trivial⟩ ⟨hk', nl, was⟩
    replace hlt : (i : Int) < n2 := hlt
    replace hlt2 : (i : Int) < 80 := hlt2
    have hi' : i < later.length := by omega
    obtain ⟨a, rfl, hcells⟩ := hd2.at_ i (by simpa using hi')
    have hcell : ∀ k u, (later[i].cells)[k]? = some u → wl.cell? ((a.add (i * 6)).add k) = some u := fun k u hu => (n0.trans nl).cell (hcells k u (by simpa using hu))
    have hstep : stores s2 (later.take (i + 1)) = st (stores s2 (later.take i)) later[i] := by rw [List.take_succ_eq_append_getElem hi', stores_snoc]
    generalize later[i] = ac at hcell hstep
    generalize stores s2 (later.take i) = s at hk' hinv hstep
    have e0 : (i : Int).toNat * 6 = i * 6 := by rw [Int.toNat_natCast]
    refine draw_ ok (.q 0 (.q 1 (.q 2 (.q 3 (.q 4 (.q 5 (.q 7 (.q 8 (.q 9 (.q 10 (.q 11 (.e 6 (.e 12 (.e 13 .done)))))))))))))) [13] (New wl) (by kernel_rfl) (by kernel_rfl) (by kernel_rfl) (by kernel_rfl) (by kernel_rfl) (New.drew _) ?_
    refine And.intro (by omega) (And.intro hlt ?_)
    refine Exists.intro ac.at_ ?_
    refine And.intro (fun w'' hw => by rw [e0]; exact hw.cell (hcell 1 _ rfl)) ?_
    refine And.intro (by omega) (And.intro hlt ?_)
    refine Exists.intro (ac.b.toNat : Int) ?_
    refine And.intro (fun w'' hw => by rw [e0]; exact hw.cell (hcell 3 _ rfl)) ?_
    refine call_ (Base.Among_ok ac.at_ 4 wl.drew (by omega)) ?_
    rintro e w3 ⟨rfl, rfl⟩
    refine ⟨_, rfl, ?_⟩
    refine Exists.intro (New wl) (And.intro (fun _ h => h) (And.intro (New.drew _) ?_))
    refine call_ (of_ok ac.b wl.drew) ?_
    rintro e w4 ⟨v4, rfl, own4, n4⟩
    obtain ⟨A4, c4, rfl, hc4, ht4, row4, hA4⟩ := own_slice own4
    refine ⟨_, rfl, ?_⟩
    have n24 := (New.drew wl).trans n4
    refine Exists.intro (New wl) (And.intro (fun _ h => h) (And.intro n24 ?_))
    have d4' := hk'.new n24
    refine call_ (Store4_ok w0.heap.size g q vs s ac.at_ ac.b A4 c4 w4 d4' hinv (by omega) row4 (fun b hb => hk'.apart_new (hA4 b hb).1)) ?_
    rintro e w5 ⟨rfl, vs', d5, m5, f5⟩
    refine ⟨_, rfl, ?_⟩
    refine ⟨80 - (i + 1), (i + 1, vs'), by omega, ⟨rfl, rfl, rfl, rfl, ?_, trivial⟩, by show i + 1 ≤ n2; omega, by show i + 1 ≤ 80; omega, rfl, ?_, ?_, ?_⟩
    · show Value.int .i64 (IntKind.i64.wrap _) = _
      rw [wrap_i64 (by omega) (by omega)]
      rfl
    · rw [hstep]
      exact d5
    · exact d4'.newD (nl.trans n24) (by rw [hinv.len]; exact m5)
    · exact (was.new n24).step m5 f5
  rintro vs4 w4 fr4 ⟨d4, k4, was4⟩
  have hin4 : Inv 161 (stores s2 (later.take 80)) := (stores_inv hin2 (later.take 80)).mono (by rw [List.length_take]; omega)
  have hsu4 := stores_sures hin2 (later.take 80)
  have hws4 := stores_ws hin2 hid2 (later.take 80)
  generalize stores s2 (later.take 80) = s4 at d4 hin4 hsu4 hws4
  have hkq : kept ≠ [] → ∀ a, K = some a → a.block ≠ q := fun hke a ha => by
    have h1 := hk.lt (by simpa [ivs] using hke) ha
    have h2 := (d4.lt q (.inr (.inl rfl))).1
    have h3 := n0.size
    omega
  refine call_ (Crash_ok w0.heap.size g q vs4 s4 K kn kc kept w4 d4 (by rw [hin4.len]; decide) (by rw [hin4.len]; decide) (hin4.lim (by omega)) (hk.new (n0.trans k4)) hkn hkq) ?_
  rintro e w5 ⟨rfl, vs5, d5, m5, f5⟩
  refine ⟨_, rfl, ?_⟩
  rw [hin4.len] at m5 f5
  have was5 := was4.step m5 (fun b hb => .inl (f5 b hb))
  have k5 : New w0 w5 := d4.newD k4 (by rw [hin4.len]; exact m5)
  have hin5 := crash_inv hin4 kept
  have hgone : (crashDS s4 kept).gone = false := rfl
  have hcell5 := crash_cell s4 kept
  generalize crashDS s4 kept = s5 at d5 hin5 hgone hcell5
  refine den_loop (σ := Nat) (fun at_ => [(1, .slice D2 n2 c2), (7, .pointer (some ⟨g, 0, none⟩)), (8, .slice A3 (dump s2.cs).length c3), (10, .int .i64 at_)])
    (fun m at_ wl => at_ ≤ 4 ∧ m = 4 - at_ ∧ New w5 wl) 4 0 ⟨rfl, rfl, rfl, rfl, trivial⟩ ⟨Nat.zero_le _, rfl, New.refl _⟩ ?_
  rintro m at_ wl fr0 ⟨hat, rfl, nl⟩
  refine if_p (fun hlt => ?_) (fun hge => ?_)
  rotate_left
  · exact ⟨rfl, (n0.trans k5).trans nl⟩
  have hat4 : at_ < 4 := by omega
  have dl := d5.new nl
  have wasl := was5.new nl
  have hF := Fetch_ok w0.heap.size g q vs5 s5 at_ wl dl (by rw [hin5.len]; decide) (by rw [hin5.len]; decide)
  have he0 : fetchErr s5 at_ = 0 := by unfold fetchErr; rw [if_neg (by rw [hin5.len]; omega), if_neg (by rw [hgone]; simp)]
  -- what is fetched
  have hi4 : at_ < s4.cs.length := by rw [hin4.len]; exact hat4
  have hi5 : at_ < s5.cs.length := by rw [hin5.len]; exact hat4
  obtain ⟨d, hd, hdw, hds, _⟩ := hcell5 at_ _ (List.getElem?_eq_getElem hi4)
  have hbs : fetchBs s5 at_ = d.sure := by
    unfold fetchBs
    rw [if_pos he0, Int.toNat_natCast, List.getD_eq_getElem?_getD, hd]
    exact now_idle hdw
  have hxl : (fetchBs s5 at_).length = 256 := by rw [hbs]; exact (d5.oks d (List.mem_of_getElem? hd)).sure
  have hwc : ((dump s2.cs).drop (at_ * 256)).take 256 = (sures s2)[at_]'(by omega) := by
    rw [dump_idle hid2]
    exact flat_cut (sures s2) hsl at_ (by omega)
  have hok : okTo later (fetchBs s5 at_) (((dump s2.cs).drop (at_ * 256)).take 256) at_ 80 = true := by
    unfold okTo
    rw [Bool.or_eq_true, List.any_eq_true]
    rcases hds with h | h
    · left
      rw [hwc, hbs, h]
      refine decide_eq_true ?_
      have : (sures s4)[at_]? = (sures s2)[at_]? := by rw [hsu4]
      unfold sures at this ⊢
      rw [List.getElem?_map, List.getElem?_eq_getElem hi4, List.getElem?_eq_getElem (by rw [List.length_map, hin2.len]; exact hat4)] at this
      exact Option.some.inj this
    · right
      obtain ⟨a, ha, h1, h2⟩ := hws4 at_ _ (List.getElem?_eq_getElem hi4) _ h
      exact ⟨a, ha, by rw [hbs, decide_eq_true h1, decide_eq_true h2]; rfl⟩
  generalize hxv : fetchBs s5 at_ = x at hF hok hxl
  rw [he0] at hF
  refine call_ hF ?_
  rintro e w6 ⟨v6, rfl, ans6, n6⟩
  obtain ⟨A6, c6, rfl, row6, hA6⟩ := ans6.row
  refine ⟨_, rfl, ?_⟩
  have e1 : IntKind.i64.wrap ((at_ : Int) * 256) = ((at_ * 256 : Nat) : Int) := by rw [wrap_i64 (by omega) (by omega)]; omega
  have e2 : IntKind.i64.wrap (IntKind.i64.wrap ((at_ : Int) + 1) * 256) = ((at_ * 256 + 256 : Nat) : Int) := by
    rw [wrap_i64 (n := (at_ : Int) + 1) (by omega) (by omega), wrap_i64 (by omega) (by omega)]
    omega
  refine And.intro (by rw [e1]; omega) (And.intro (by rw [e1, e2]; omega) (And.intro (by rw [e2]; omega) ?_))
  have was6 := wasl.new n6
  have hSB := Base.SameBytes_ok A6 (slA A3 c3 (at_ * 256) 1) x.length c6 256 (c3 - at_ * 256) x (((dump s2.cs).drop (at_ * 256)).take 256) w6 rfl (by rw [hwc]; exact (hsl _ (List.getElem_mem _)).symm) row6 (row_cut was6.row hc3 (at_ * 256) 256)
  have e3 : (IntKind.i64.wrap ((at_ : Int) * 256)).toNat = at_ * 256 := by rw [e1, Int.toNat_natCast]
  have e4 : (IntKind.i64.wrap (IntKind.i64.wrap ((at_ : Int) + 1) * 256)).toNat - (IntKind.i64.wrap ((at_ : Int) * 256)).toNat = 256 := by rw [e1, e2]; omega
  rw [← e3] at hSB
  have hSB' : Calls Tryd.prog 13 #[.slice A6 x.length c6, .slice (slA A3 c3 (IntKind.i64.wrap ((at_ : Int) * 256)).toNat 1) ((IntKind.i64.wrap (IntKind.i64.wrap ((at_ : Int) + 1) * 256)).toNat - (IntKind.i64.wrap ((at_ : Int) * 256)).toNat) (c3 - (IntKind.i64.wrap ((at_ : Int) * 256)).toNat)] w6 fun e w' => e = .returned (.bool (okTo later x (((dump s2.cs).drop (at_ * 256)).take 256) at_ 0)) ∧ w' = w6 := by
    rw [e4]
    refine hSB.mono ?_
    rintro e w' ⟨rfl, h⟩
    refine ⟨?_, h⟩
    rw [e3]
    unfold okTo
    simp
  refine call_ hSB' ?_
  rintro e w7 ⟨rfl, rfl⟩
  refine ⟨_, rfl, ?_⟩
  generalize ((dump s2.cs).drop (at_ * 256)).take 256 = sl at hok
  have n57 := nl.trans n6
  refine den_loop (σ := Nat) (fun i => [(1, .slice D2 n2 c2), (7, .pointer (some ⟨g, 0, none⟩)), (8, .slice A3 (dump s2.cs).length c3), (10, .int .i64 at_), (11, .slice A6 x.length c6), (12, .int .i64 0), (13, .bool (okTo later x sl at_ i)), (14, .int .i64 i)])
    (fun m i wl => i ≤ n2 ∧ i ≤ 80 ∧ m = 80 - i ∧ New w7 wl) 80 0 ⟨rfl, rfl, rfl, rfl, rfl, rfl, rfl, rfl, trivial⟩ ⟨Nat.zero_le _, Nat.zero_le _, rfl, New.refl _⟩ ?_
  rintro m i wi fr1 ⟨hi, hi80, rfl, ni⟩
  have done : (i = n2 ∨ i = 80) → okTo later x sl at_ i = true := by
    intro hh
    rw [← hok]
    unfold okTo
    congr 2
    rcases hh with h | h
    · rw [List.take_of_length_le (by omega), List.take_of_length_le (by omega)]
    · rw [h]
  refine if_p (fun hlt1 => ?_) (fun hge1 => ?_)
  rotate_left
  · have ho := done (.inl (by omega))
    refine if_no (by rw [ho]; rfl) ?_
    refine ⟨4 - (at_ + 1), at_ + 1, by omega, ⟨rfl, rfl, rfl, ?_, trivial⟩, by omega, rfl, n57.trans ni⟩
    show Value.int .i64 (IntKind.i64.wrap _) = _
    rw [wrap_i64 (by omega) (by omega)]
    rfl
  refine if_p (fun hlt2 => ?_) (fun hge2 => ?_)
  rotate_left
  · have ho := done (.inr (by omega))
    refine if_no (by rw [ho]; rfl) ?_
    refine ⟨4 - (at_ + 1), at_ + 1, by omega, ⟨rfl, rfl, rfl, ?_, trivial⟩, by omega, rfl, n57.trans ni⟩
    show Value.int .i64 (IntKind.i64.wrap _) = _
    rw [wrap_i64 (by omega) (by omega)]
    rfl
  have hi' : i < later.length := by omega
  have hstep := okTo_step later x sl at_ i hi'
  obtain ⟨a, rfl, hcells⟩ := hd2.at_ i (by simpa using hi')
  have hcell : ∀ k u, (later[i].cells)[k]? = some u → wi.cell? ((a.add (i * 6)).add k) = some u := fun k u hu => ((n0.trans k5).trans (n57.trans ni)).cell (hcells k u (by simpa using hu))
  generalize later[i] = ac at hcell hstep
  have e0 : (i : Int).toNat * 6 = i * 6 := by rw [Int.toNat_natCast]
  refine if_ (fun ho => ?_) (fun ho => ?_)
  · refine ⟨80 - (i + 1), i + 1, by omega, ⟨rfl, rfl, rfl, rfl, rfl, rfl, ?_, ?_, trivial⟩, by omega, by omega, rfl, ni⟩
    · show Value.bool true = _
      rw [hstep, ho, Bool.true_or]
    · show Value.int .i64 (IntKind.i64.wrap _) = _
      rw [wrap_i64 (by omega) (by omega)]
      rfl
  · rw [ho, Bool.false_or] at hstep
    refine And.intro (by omega) (And.intro hlt1 ?_)
    refine Exists.intro ac.at_ ?_
    refine And.intro (by rw [e0]; exact hcell 1 _ rfl) ?_
    refine call_ (Base.Among_ok ac.at_ 4 wi (by omega)) ?_
    rintro e w8 ⟨rfl, rfl⟩
    refine ⟨_, rfl, ?_⟩
    refine if_p (fun hj => ?_) (fun hj => ?_)
    · rw [decide_eq_true hj, Bool.true_and] at hstep
      refine And.intro (by omega) (And.intro hlt1 ?_)
      refine Exists.intro (ac.b.toNat : Int) ?_
      refine And.intro (by rw [e0]; exact hcell 3 _ rfl) ?_
      refine call_ (of_ok ac.b w8) ?_
      rintro e w9 ⟨v9, rfl, own9, n9⟩
      obtain ⟨A9, c9, rfl, _, _, row9, hA9⟩ := own_slice own9
      refine ⟨_, rfl, ?_⟩
      refine call_ (Base.SameBytes_ok A6 A9 x.length c6 256 c9 x (rep ac.b) w9 rfl (rep_len _).symm ((row6.new ni).new n9) row9) ?_
      rintro e w10 ⟨rfl, rfl⟩
      refine ⟨_, rfl, ?_⟩
      refine ⟨80 - (i + 1), i + 1, by omega, ⟨rfl, rfl, rfl, rfl, rfl, rfl, ?_, ?_, trivial⟩, by omega, by omega, rfl, ni.trans n9⟩
      · show Value.bool (decide (x = rep ac.b)) = _
        rw [hstep]
      · show Value.int .i64 (IntKind.i64.wrap _) = _
        rw [wrap_i64 (by omega) (by omega)]
        rfl
    · rw [decide_eq_false hj, Bool.false_and] at hstep
      refine ⟨80 - (i + 1), i + 1, by omega, ⟨rfl, rfl, rfl, rfl, rfl, rfl, ?_, ?_, trivial⟩, by omega, by omega, rfl, ni⟩
      · show Value.bool false = _
        rw [hstep]
      · show Value.int .i64 (IntKind.i64.wrap _) = _
        rw [wrap_i64 (by omega) (by omega)]
        rfl
end Go.Proofs.YtgfdpojpcpgddaaDoor.Disk

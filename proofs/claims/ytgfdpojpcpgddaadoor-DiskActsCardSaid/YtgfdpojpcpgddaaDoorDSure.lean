/- The statement DiskSure, walked. -/
import Derived.Test.YtgfdpojpcpgddaaDoorDStored
import Derived.Test.YtgfdpojpcpgddaaDoorDState2
namespace Go.Proofs.YtgfdpojpcpgddaaDoor.Disk
open Go Go.Proofs.YtgfdpojpcpgddaaDoor Go.Proofs.YtgfdpojpcpgddaaDoor.Eng Go.Proofs
set_option maxRecDepth 10000

/-- A row of bytes that no act of a disk turns. -/
structure Kept (w : World) (S : Nat → Prop) (A : Option Addr) (bs : List UInt8) : Prop where
  row : Row w A (bvs bs)
  lt : ∀ a, A = some a → a.block < w.heap.size ∧ ¬ S a.block
theorem Kept.step {w w' : World} {S S' : Nat → Prop} {A : Option Addr} {bs : List UInt8} (h : Kept w S A bs) (m : Mod S w w') (hS : ∀ b, S' b → S b ∨ w.heap.size ≤ b) : Kept w' S' A bs :=
  ⟨h.row.mod m fun a ha => (h.lt a ha).2, fun a ha => ⟨Nat.lt_of_lt_of_le (h.lt a ha).1 m.size, fun hs => by
    rcases hS _ hs with e | e
    · exact (h.lt a ha).2 e
    · have := (h.lt a ha).1; omega⟩⟩
theorem Kept.new {w w' : World} {S : Nat → Prop} {A : Option Addr} {bs : List UInt8} (h : Kept w S A bs) (m : New w w') : Kept w' S A bs :=
  ⟨h.row.new m, fun a ha => ⟨Nat.lt_of_lt_of_le (h.lt a ha).1 m.size, (h.lt a ha).2⟩⟩
/-- The dump that was taken stays. -/
theorem Dk.kept_dump {w w' : World} {base g q : Nat} {vs : Nat → Value} {s : DS} {N : Nat} (h : Dk w base g q vs s) (hi : Inv N s) {A : Option Addr} {n c : Nat} {bs : List UInt8} (hn : n = bs.length) (ho : w'.ownsRow w.heap.size 5 1 (.slice A n c) n (bvs bs)) : Kept w' (DSet g q 4 vs) A bs := by
  obtain ⟨A', c', he, _, _, hrow, hA⟩ := own_slice ho
  cases he
  refine ⟨hrow, fun a ha => ⟨(hA a ha).2.1, ?_⟩⟩
  have := h.apart_new (hA a ha).1
  rw [hi.len] at this
  exact this

theorem DiskSure_ok (D1 : Option Addr) (n1 c1 : Nat) (acts : List ActV) (D2 : Option Addr) (n2 c2 : Nat) (later : List ActV) (K : Option Addr) (kn kc : Nat) (kept : List Int) (w : World)
    (hn1 : n1 = acts.length) (hd1 : Rows2 w D1 6 (acts.map ActV.cells)) (hn2 : n2 = later.length) (hd2 : Rows2 w D2 6 (later.map ActV.cells)) (hkn : kn = kept.length) (hk : Row w K (ivs kept)) :
    Calls Tryd.prog 4 #[.slice D1 n1 c1, .slice D2 n2 c2, .slice K kn kc] w fun e w' => e = .returned (.bool true) ∧ New w w' := by
  refine enter ok Tryd.func4 rfl rfl rfl ?_
  refine call_ (works_ok w) ?_
  rintro e w0 ⟨b0, rfl, rfl, n0⟩
  refine ⟨_, rfl, ?_⟩
  have hd1' : Rows2 w0 D1 6 (acts.map ActV.cells) := fun i cs hi => by
    obtain ⟨h1, a, h2, h3⟩ := hd1 i cs hi
    exact ⟨h1, a, h2, fun k u hu => n0.cell (h3 k u hu)⟩
  refine call_ (stored_ok D1 n1 c1 acts w0 hn1 hd1') ?_
  rintro e w1 ⟨g, q, vs1, rfl, d1, m1⟩
  refine ⟨_, rfl, ?_⟩
  have hin1 : Inv 80 (runs (fresh 4) (acts.take 80)) := (inv_runs (fresh 4) 0 inv_fresh (acts.take 80)).mono (by rw [List.length_take]; omega)
  have hfr1 : Free (runs (fresh 4) (acts.take 80)) := free_runs _ (free_fresh 4) _
  generalize runs (fresh 4) (acts.take 80) = s1 at d1 hin1 hfr1
  have hB := Barrier_ok w0.heap.size g q vs1 s1 w1 d1 (hin1.fine (by omega)) (by rw [hin1.len]; decide) (by rw [hin1.len]; decide) (hin1.lim (by omega))
  rw [if_pos hfr1.can] at hB
  refine call_ hB ?_
  rintro e w2 ⟨rfl, vs2, d2, m2, f2⟩
  refine ⟨_, rfl, ?_⟩
  have hin2 := bar_inv hin1
  have hid2 := bar_Idle hfr1
  have hfr2 := bar_free hfr1
  have k2 : New w0 w2 := d1.newD m1 m2
  generalize barDS s1 = s2 at d2 hin2 hid2 hfr2
  refine call_ (Dump_ok w0.heap.size g q vs2 s2 w2 d2 (by rw [hin2.len]; decide)) ?_
  rintro e w3 ⟨v3, rfl, own3, n3⟩
  obtain ⟨A3, c3, rfl, _, _, row3, hA3⟩ := own_slice own3
  refine ⟨_, rfl, ?_⟩
  have was3 := d2.kept_dump hin2 rfl own3
  have d3 := d2.new n3
  have hkq : kept ≠ [] → ∀ a, K = some a → a.block ≠ q := fun hke a ha => by
    have h1 := hk.lt (by simpa [ivs] using hke) ha
    have h2 := (d2.lt q (.inr (.inl rfl))).1
    have h3 := n0.size
    omega
  have k3 := k2.trans n3
  refine call_ (Crash_ok w0.heap.size g q vs2 s2 K kn kc kept w3 d3 (by rw [hin2.len]; decide) (by rw [hin2.len]; decide) (hin2.lim (by omega)) (hk.new (n0.trans k3)) hkn hkq) ?_
  rintro e w4 ⟨rfl, vs4, d4, m4, f4⟩
  refine ⟨_, rfl, ?_⟩
  rw [hin2.len] at m4 f4
  have hin4 := crash_inv hin2 kept
  have hid4 : Idle (crashDS s2 kept) := crash_Idle s2 kept
  have hfr4 : Free (crashDS s2 kept) := crash_free s2 kept
  have hcs : (crashDS s2 kept).cs = s2.cs := by rw [crash_idle hid2]
  have hdm4 : dump (crashDS s2 kept).cs = dump s2.cs := by rw [hcs]
  have hsu4 : sures (crashDS s2 kept) = sures s2 := by unfold sures; rw [hcs]
  have was4 := was3.step m4 (fun b hb => .inl (f4 b hb))
  have k4 : New w0 w4 := d3.newD k3 (by rw [hin2.len]; exact m4)
  generalize crashDS s2 kept = s4 at d4 hin4 hid4 hfr4 hdm4 hsu4
  refine call_ (Dump_ok w0.heap.size g q vs4 s4 w4 d4 (by rw [hin4.len]; decide)) ?_
  rintro e w5 ⟨v5, rfl, own5, n5⟩
  obtain ⟨A5, c5, rfl, _, _, row5, hA5⟩ := own_slice own5
  refine ⟨_, rfl, ?_⟩
  have was5 := was4.new n5
  refine call_ (Base.SameBytes_ok A5 A3 _ c5 _ c3 (dump s4.cs) (dump s2.cs) w5 rfl rfl row5 was5.row) ?_
  rintro e w6 ⟨rfl, rfl⟩
  refine ⟨_, rfl, ?_⟩
  refine if_n (fun hne => absurd hdm4 hne) (fun _ => ?_)
  have d6 := d4.new n5
  have k6 := k4.trans n5
  have hfin : ∀ i, (i = later.length ∧ i ≤ 80 ∨ i = 80) → True := fun _ _ => trivial
  refine seq_cut (σ := (Nat → Value) × DS) (fun _ => [(7, .pointer (some ⟨g, 0, none⟩)), (8, .slice A3 (dump s2.cs).length c3)])
    (fun t wl => Dk wl w0.heap.size g q t.1 t.2 ∧ Inv 161 t.2 ∧ Free t.2 ∧ sures t.2 = sures s2 ∧ New w0 wl ∧ Kept wl (DSet g q 4 t.1) A3 (dump s2.cs)) ?_ ?_
  · rintro ⟨vs7, s7⟩ w7 fr7 ⟨d7, hin7, hfr7, hsu7, k7, was7⟩
    dsimp only at d7 hin7 hfr7 hsu7 was7
    refine call_ (Crash_ok w0.heap.size g q vs7 s7 none 0 0 [] w7 d7 (by rw [hin7.len]; decide) (by rw [hin7.len]; decide) (hin7.lim (by omega)) (Row.nil _ _) rfl (fun h => absurd rfl h)) ?_
    rintro e w8 ⟨rfl, vs8, d8, m8, f8⟩
    refine ⟨_, rfl, ?_⟩
    rw [hin7.len] at m8 f8
    have was8 := was7.step m8 (fun b hb => .inl (f8 b hb))
    have k8 : New w0 w8 := d7.newD k7 (by rw [hin7.len]; exact m8)
    have hin8 := crash_inv hin7 []
    have hid8 : Idle (crashDS s7 []) := crash_Idle s7 []
    have hsu8 := crash_nil_sures s7
    generalize crashDS s7 [] = s8 at d8 hin8 hid8 hsu8
    refine call_ (Dump_ok w0.heap.size g q vs8 s8 w8 d8 (by rw [hin8.len]; decide)) ?_
    rintro e w9 ⟨v9, rfl, own9, n9⟩
    obtain ⟨A9, c9, rfl, _, _, row9, hA9⟩ := own_slice own9
    refine ⟨_, rfl, ?_⟩
    have hdm8 : dump s8.cs = dump s2.cs := by rw [dump_idle hid8, dump_idle hid2, hsu8, hsu7]
    refine call_ (Base.SameBytes_ok A9 A3 _ c9 _ c3 (dump s8.cs) (dump s2.cs) w9 rfl rfl row9 (was8.new n9).row) ?_
    rintro e w10 ⟨rfl, rfl⟩
    refine ⟨_, rfl, ?_⟩
    refine if_yes (decide_eq_true hdm8) ?_
    have hC := Cached_ok w0.heap.size g q vs8 s8 w10 (d8.new n9) (by rw [hin8.len]; decide)
    rw [cached_idle hid8] at hC
    refine call_ hC ?_
    rintro e w11 ⟨v11, rfl, own11, n11⟩
    obtain ⟨A11, c11, rfl, _⟩ := own_slice own11
    exact ⟨_, rfl, rfl, (n0.trans k8).trans (n9.trans n11)⟩
  intro K' hK
  refine den_loop (σ := Nat × (Nat → Value)) (fun t => [(1, .slice D2 n2 c2), (7, .pointer (some ⟨g, 0, none⟩)), (8, .slice A3 (dump s2.cs).length c3), (9, .int .i64 t.1)])
    (fun m t wl => t.1 ≤ n2 ∧ t.1 ≤ 80 ∧ m = 80 - t.1 ∧ Dk wl w0.heap.size g q t.2 (stores s4 (later.take t.1)) ∧ Free (stores s4 (later.take t.1)) ∧ New w0 wl ∧ Kept wl (DSet g q 4 t.2) A3 (dump s2.cs)) 80 (0, vs4) ⟨rfl, rfl, rfl, rfl, trivial⟩ ⟨Nat.zero_le _, Nat.zero_le _, rfl, d6, hfr4, k6, was5⟩ ?_
  rintro m ⟨i, vs⟩ wl fr0 ⟨hi, hi80, rfl, hk', hfr, nl, was⟩
  dsimp only at hi hi80 hk' nl hfr was
  have hinv := stores_inv hin4 (later.take i)
  have hsu := stores_sures hin4 (later.take i)
  rw [List.length_take] at hinv
  refine if_p (fun hlt => ?_) (fun hge => ?_)
  rotate_left
  · exact hK (vs, stores s4 (later.take i)) _ _ ⟨rfl, rfl, trivial⟩ ⟨hk', hinv.mono (by omega), hfr, by rw [hsu, hsu4], nl, was⟩
  refine if_p (fun hlt2 => ?_) (fun hge2 => ?_)
  rotate_left
  · exact hK (vs, stores s4 (later.take i)) _ _ ⟨rfl, rfl, trivial⟩ ⟨hk', hinv.mono (by omega), hfr, by rw [hsu, hsu4], nl, was⟩
  replace hlt : (i : Int) < n2 := hlt
  replace hlt2 : (i : Int) < 80 := hlt2
  have hi' : i < later.length := by omega
  obtain ⟨a, rfl, hcells⟩ := hd2.at_ i (by simpa using hi')
  have hcell : ∀ k u, (later[i].cells)[k]? = some u → wl.cell? ((a.add (i * 6)).add k) = some u := fun k u hu => (n0.trans nl).cell (hcells k u (by simpa using hu))
  have hstep : stores s4 (later.take (i + 1)) = st (stores s4 (later.take i)) later[i] := by rw [List.take_succ_eq_append_getElem hi', stores_snoc]
  generalize later[i] = ac at hcell hstep
  generalize stores s4 (later.take i) = s at hk' hinv hstep hfr
  have e0 : (i : Int).toNat * 6 = i * 6 := by rw [Int.toNat_natCast]
  refine draw_ ok (.q 0 (.q 1 (.q 2 (.q 3 (.q 4 (.q 5 (.q 7 (.q 8 (.q 9 (.q 10 (.q 11 (.e 6 (.e 12 (.e 13 .done)))))))))))))) [13] (New wl) (by kernel_rfl) (by kernel_rfl) (by kernel_rfl) (by kernel_rfl) (by kernel_rfl) (New.drew _) ?_
  refine And.intro (by omega) (And.intro hlt ?_)
  refine Exists.intro ac.at_ ?_
  refine And.intro (fun w'' hw => by rw [e0]; exact hw.cell (hcell 1 _ rfl)) ?_
  refine And.intro (by omega) (And.intro hlt ?_)
  refine Exists.intro (ac.b.toNat : Int) ?_
  refine And.intro (fun w'' hw => by rw [e0]; exact hw.cell (hcell 3 _ rfl)) ?_
  refine call_ (Base.Among_ok ac.at_ 4 wl.drew (by omega)) ?_
  rintro e w3 ⟨rfl, rfl⟩
  refine ⟨_, rfl, ?_⟩
  refine Exists.intro (New wl) (And.intro (fun _ h => h) (And.intro (New.drew _) ?_))
  refine call_ (of_ok ac.b wl.drew) ?_
  rintro e w4 ⟨v4, rfl, own4, n4⟩
  obtain ⟨A4, c4, rfl, hc4, ht4, row4, hA4⟩ := own_slice own4
  refine ⟨_, rfl, ?_⟩
  have n24 := (New.drew wl).trans n4
  refine Exists.intro (New wl) (And.intro (fun _ h => h) (And.intro n24 ?_))
  have d4' := hk'.new n24
  refine call_ (Store4_ok w0.heap.size g q vs s ac.at_ ac.b A4 c4 w4 d4' hinv (by omega) row4 (fun b hb => hk'.apart_new (hA4 b hb).1)) ?_
  rintro e w5 ⟨rfl, vs', d5, m5, f5⟩
  refine ⟨_, rfl, ?_⟩
  have hfr' : Free (stores s4 (later.take (i + 1))) := by
    rw [hstep]
    unfold st
    rw [storeDS_eq s hinv.len, if_pos hfr.can]
    exact hfr.mv
  refine ⟨80 - (i + 1), (i + 1, vs'), by omega, ⟨rfl, rfl, rfl, ?_, trivial⟩, by show i + 1 ≤ n2; omega, by show i + 1 ≤ 80; omega, rfl, ?_, hfr', ?_, ?_⟩
  · show Value.int .i64 (IntKind.i64.wrap _) = _
    rw [wrap_i64 (by omega) (by omega)]
    rfl
  · rw [hstep]
    exact d5
  · exact d4'.newD (nl.trans n24) (by rw [hinv.len]; exact m5)
  · exact (was.new n24).step m5 f5
end Go.Proofs.YtgfdpojpcpgddaaDoor.Disk

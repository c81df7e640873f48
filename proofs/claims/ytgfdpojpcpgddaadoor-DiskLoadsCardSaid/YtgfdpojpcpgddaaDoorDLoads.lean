/- The statement DiskLoads, walked. -/
import Derived.Test.YtgfdpojpcpgddaaDoorDRef1
namespace Go.Proofs.YtgfdpojpcpgddaaDoor.Disk
open Go Go.Proofs.YtgfdpojpcpgddaaDoor Go.Proofs.YtgfdpojpcpgddaaDoor.Eng Go.Proofs
set_option maxRecDepth 10000

theorem RLoad_ok (A : Option Addr) (n c : Nat) (bs : List UInt8) (w : World) (hn : n = bs.length) (hr : Row w A (bvs bs)) (hc : n ≤ c) (ht : c ≤ 9223372036854775807) :
    Calls Tryd.prog 11 #[.slice A n c] w fun e w' => New w w' ∧ ((¬ good n ∧ e = .returned (.tuple #[.pointer none, .int .i64 2])) ∨ (good n ∧ ∃ p : Addr, e = .returned (.tuple #[.pointer (some p), .int .i64 0]))) := by
  refine enter ok Tryd.func11 rfl rfl rfl ?_
  have ediv : IntKind.i64.wrap ((n : Int).tdiv 256) = ((n / 256 : Nat) : Int) := by
    rw [Int.tdiv_eq_ediv_of_nonneg (by omega), wrap_i64 (by omega) (by omega)]
    omega
  have erem : (n : Int).tmod 256 = ((n % 256 : Nat) : Int) := by
    rw [Int.tmod_eq_emod_of_nonneg (by omega)]
    omega
  refine And.intro (by decide) ?_
  refine if_n (fun hne => ?_) (fun he => ?_)
  · rw [erem] at hne
    exact ⟨New.refl _, .inl ⟨by rintro ⟨h1, h2, h3⟩; omega, rfl⟩⟩
  rw [erem] at he
  refine And.intro (by decide) ?_
  by_cases hbad : n / 256 < 1 ∨ 4096 < n / 256
  · have hM := RMake_err (n / 256 : Nat) w (by omega)
    rw [← ediv] at hM
    refine call_ hM ?_
    rintro e w1 ⟨rfl, rfl⟩
    refine ⟨_, rfl, ?_⟩
    exact ⟨New.refl _, .inl ⟨by rintro ⟨h1, h2, h3⟩; omega, rfl⟩⟩
  have hM := RMake_ok (n / 256) w (by omega) (by omega)
  rw [← ediv] at hM
  refine call_ hM ?_
  rintro e w1 ⟨g, q, vc, L, rfl, r1, n1⟩
  refine ⟨_, rfl, ?_⟩
  have hgood : good n := ⟨by omega, by omega, by omega⟩
  have hN : (fresh (n / 256)).cs.length = n / 256 := by simp [fresh]
  have hnN : n = n / 256 * 256 := by omega
  generalize n / 256 = N at r1 hbad hN hnN
  have hb1 := r1.blk
  have ho1 := r1.row
  have hgq := r1.gq
  have hbg := r1.bg
  have hqb := r1.lt
  rw [hN] at hb1 ho1
  refine den_loop (σ := Nat × List Value) (fun t => [(0, .slice A n c), (4, .pointer (some ⟨g, 0, none⟩)), (6, .int .i64 t.1)])
    (fun m t wl => t.1 ≤ N ∧ m = N - t.1 ∧ wl.heap[g]? = some (.cells #[.slice (some ⟨q, 0, none⟩) N vc, .int .i64 0, .int .i64 (-1), .bool false] 59 (0, 0)) ∧ wl.ownsRow w.heap.size 74 1 (.slice (some ⟨q, 0, none⟩) N vc) N t.2 ∧ New w wl) N (0, L) ⟨rfl, rfl, rfl, trivial⟩ ⟨Nat.zero_le _, rfl, hb1, ho1, n1⟩ ?_
  rintro m ⟨i, L'⟩ wl fr0 ⟨hi, rfl, hb, ho, nl⟩
  dsimp only at hi hb ho nl
  have hcl : wl.cell? ⟨g, 0, none⟩ = some (.slice (some ⟨q, 0, none⟩) N vc) := by rw [cell_of_row _ _ 0 _ _ _ hb]; rfl
  refine Exists.intro (some ⟨q, 0, none⟩) (Exists.intro N (Exists.intro vc ?_))
  refine And.intro (by rw [ad0]; exact hcl) ?_
  refine if_p (fun hlt => ?_) (fun hge => ?_)
  rotate_left
  · exact ⟨nl, .inr ⟨hgood, _, rfl⟩⟩
  replace hlt : (i : Int) < N := hlt
  have hLl : L'.length = N := by have := ho.1; omega
  have e1 : IntKind.i64.wrap ((i : Int) * 256) = ((i * 256 : Nat) : Int) := by rw [wrap_i64 (by omega) (by omega)]; omega
  have e2 : IntKind.i64.wrap (IntKind.i64.wrap ((i : Int) + 1) * 256) = ((i * 256 + 256 : Nat) : Int) := by
    rw [wrap_i64 (n := (i : Int) + 1) (by omega) (by omega), wrap_i64 (by omega) (by omega)]
    omega
  have hcutl : (cutAt bs i).length = 256 := by unfold cutAt; rw [List.length_take, List.length_drop]; omega
  have hrow := row_cut (hr.new nl) (show bs.length ≤ c by omega) (i * 256) 256
  refine draw_ ok (.q 0 (.q 1 (.q 2 (.q 3 (.q 4 (.q 5 (.q 6 (.q 7 (.q 8 (.q 9 (.q 10 (.q 11 (.q 12 (.e 13 (.q 14 (.e 15 .done)))))))))))))))) [15] (New wl) (by kernel_rfl) (by kernel_rfl) (by kernel_rfl) (by kernel_rfl) (by kernel_rfl) (New.drew _) ?_
  refine Exists.intro (some ⟨q, 0, none⟩) (Exists.intro N (Exists.intro vc ?_))
  refine And.intro (fun w'' hw => by rw [ad0]; exact hw.cell hcl) ?_
  refine And.intro (by rw [e1]; omega) (And.intro (by rw [e1, e2]; omega) (And.intro (by rw [e2]; omega) ?_))
  refine Exists.intro (cutAt bs i) ?_
  refine And.intro (by rw [e1, e2, hcutl]; omega) (And.intro (fun w'' hw => by rw [e1, Int.toNat_natCast]; exact hrow.new hw) ?_)
  refine eff_build (xs := [strV (cutAt bs i)]) rfl rfl rfl rfl rfl rfl rfl rfl rfl ?_
  have k2 := (New.drew wl).trans (New.alloc wl.drew (.cells #[strV (cutAt bs i)] 9))
  refine Exists.intro (New wl) (And.intro (fun _ h => h) (And.intro k2 ?_))
  refine And.intro (by omega) (And.intro hlt ?_)
  obtain ⟨hc0, hf0, hst⟩ := own_store (own_new k2 ho) i (by omega)
  have ex : (⟨q, 0, none⟩ : Addr).add ((i : Int).toNat * 1) = ⟨q, i, none⟩ := by rw [Nat.mul_one, Int.toNat_natCast, ad0]
  refine And.intro ⟨_, by rw [ex]; exact hc0⟩ (And.intro (by rw [ex]; exact hf0) ?_)
  obtain ⟨o5, m5⟩ := hst (.slice (some ⟨wl.heap.size, 0, none⟩) 1 1)
  refine ⟨N - (i + 1), (i + 1, L'.set i (.slice (some ⟨wl.heap.size, 0, none⟩) 1 1)), by omega, ⟨rfl, rfl, ?_, trivial⟩, by show i + 1 ≤ N; omega, rfl, ?_, ?_, ?_⟩
  · show Value.int .i64 (IntKind.i64.wrap _) = _
    rw [wrap_i64 (by omega) (by omega)]
    rfl
  · rw [ex]
    exact m5.blk (k2.blk hb) hgq
  · rw [ex]
    exact o5
  · rw [ex]
    exact Mod.trans (nl.trans k2) m5 fun b hb e => by omega

theorem DiskLoads_ok (A : Option Addr) (n c : Nat) (bs : List UInt8) (K : Option Addr) (kn kc : Nat) (kept : List Int) (w : World) (hn : n = bs.length) (hr : Row w A (bvs bs)) (hc : n ≤ c) (ht : c ≤ 9223372036854775807) (hm : n ≤ 140737488351232) (hkn : kn = kept.length) (hk : Row w K (ivs kept)) :
    Calls Tryd.prog 3 #[.slice A n c, .slice K kn kc] w fun e w' => e = .returned (.bool true) ∧ New w w' := by
  refine enter ok Tryd.func3 rfl rfl rfl ?_
  refine call_ (Base.Bytes_ok A n c bs w hn hr (by omega)) ?_
  rintro e w0 ⟨v0, rfl, own0, n0⟩
  obtain ⟨A0, c0, rfl, hc0, ht0, row0, hA0⟩ := own_slice own0
  refine ⟨_, rfl, ?_⟩
  refine call_ (Load_ok A0 n c0 bs w0 hn row0 hc0 ht0) ?_
  rintro e w1 ⟨n1, hor⟩
  have own1 := own_new n1 own0
  rcases hor with ⟨hng, rfl⟩ | ⟨hg, g, q, vs, rfl, d1⟩
  · refine ⟨_, rfl, ?_⟩
    refine call_ (RLoad_ok A n c bs w1 hn ((hr.new n0).new n1) hc ht) ?_
    rintro e w2 ⟨n2, hor2⟩
    rcases hor2 with ⟨_, rfl⟩ | ⟨hg, _⟩
    rotate_left
    · exact absurd hg hng
    refine ⟨_, rfl, ?_⟩
    have own2 := own_new n2 own1
    have hfar : ∀ wl, Mod (fun b => w.heap.size ≤ b ∧ b < w0.heap.size) w2 wl → New w wl := fun wl ml => Mod.trans ((n0.trans n1).trans n2) ml fun b hb e => by omega
    refine den_loop (σ := Nat) (fun i => [(0, .slice A n c), (1, .slice K kn kc), (5, .slice A0 n c0), (6, .pointer none), (8, .pointer none), (10, .int .i64 i)])
      (fun m i wl => i ≤ n ∧ m = n - i ∧ (∃ ys : List UInt8, ys.length = n ∧ wl.ownsRow w.heap.size 5 1 (.slice A0 n c0) n (bvs ys)) ∧ Mod (fun b => w.heap.size ≤ b ∧ b < w0.heap.size) w2 wl) n 0 ⟨rfl, rfl, rfl, rfl, rfl, rfl, trivial⟩
      ⟨Nat.zero_le _, rfl, ⟨bs, hn.symm, own2⟩, Mod.refl _ _⟩ ?_
    rintro m i wl fr0 ⟨hi, rfl, ⟨ys, hys, ownl⟩, ml⟩
    refine if_p (fun hlt => ?_) (fun hge => ?_)
    · replace hlt : (i : Int) < n := hlt
      obtain ⟨gq, cq, hsl, hgq, _⟩ := own_pos ownl (by omega)
      obtain ⟨rfl, _⟩ : A0 = some ⟨gq, 0, none⟩ ∧ c0 = cq := by
        injection hsl with e1 e2 e3
        exact ⟨e1, e3⟩
      have hgl := (hA0 _ rfl).2.1
      obtain ⟨hcx, hfx, hst⟩ := own_store ownl i (by rw [bvs_length]; omega)
      have ex : (⟨gq, 0, none⟩ : Addr).add ((i : Int).toNat * 1) = ⟨gq, i, none⟩ := by rw [Nat.mul_one, Int.toNat_natCast, ad0]
      refine And.intro (by omega) (And.intro hlt (And.intro ⟨_, by rw [ex]; exact hcx⟩ (And.intro (by rw [ex]; exact hfx) ?_)))
      obtain ⟨own7, mod7⟩ := hst (bv 203)
      rw [bvs_set] at own7
      refine ⟨n - (i + 1), i + 1, by omega, ⟨rfl, rfl, rfl, rfl, rfl, ?_, trivial⟩, by omega, rfl, ⟨ys.set i 203, ?_, ?_⟩, ?_⟩
      · show Value.int .i64 (IntKind.i64.wrap _) = _
        rw [wrap_i64 (by omega) (by omega)]
        rfl
      · rw [List.length_set]; exact hys
      · rw [← ex] at own7
        exact own7
      · rw [← ex] at mod7
        have hb7 : ((⟨gq, 0, none⟩ : Addr).add ((i : Int).toNat * 1)).block = gq := by rw [ex]
        exact Mod.trans ml mod7 fun b _ e => by subst e; exact ⟨hgq, hgl⟩
    · refine call_ (works_ok wl) ?_
      rintro e w3 ⟨b3, rfl, rfl, n3⟩
      exact ⟨_, rfl, rfl, (hfar wl ml).trans n3⟩
  · refine ⟨_, rfl, ?_⟩
    refine call_ (RLoad_ok A n c bs w1 hn ((hr.new n0).new n1) hc ht) ?_
    rintro e w2 ⟨n2, hor2⟩
    rcases hor2 with ⟨hng, _⟩ | ⟨_, p, rfl⟩
    · exact absurd hg hng
    refine ⟨_, rfl, ?_⟩
    have own2 := own_new n2 own1
    have d2 := d1.new n2
    have hfar : ∀ wl, Mod (fun b => w.heap.size ≤ b ∧ b < w0.heap.size) w2 wl → New w wl := fun wl ml => Mod.trans ((n0.trans n1).trans n2) ml fun b hb e => by omega
    have hlenb : bs.length = n / 256 * 256 := by have := hg.2.2; omega
    have hN1 : 0 < n / 256 := by have := hg.1; omega
    have hN2 : n / 256 ≤ 4096 := by have := hg.2.1; omega
    have hll : (laid bs (n / 256) (n / 256)).cs.length = n / 256 := laid_len _ _ _
    have hdm : dump (laid bs (n / 256) (n / 256)).cs = bs := laid_dump _ _ hlenb
    have hid : Idle (laid bs (n / 256) (n / 256)) := laid_idle _ _ _
    generalize laid bs (n / 256) (n / 256) = s at d1 d2 hll hdm hid
    refine den_loop (σ := Nat) (fun i => [(0, .slice A n c), (1, .slice K kn kc), (5, .slice A0 n c0), (6, .pointer (some ⟨g, 0, none⟩)), (8, .pointer (some p)), (10, .int .i64 i)])
      (fun m i wl => i ≤ n ∧ m = n - i ∧ (∃ ys : List UInt8, ys.length = n ∧ wl.ownsRow w.heap.size 5 1 (.slice A0 n c0) n (bvs ys)) ∧ Mod (fun b => w.heap.size ≤ b ∧ b < w0.heap.size) w2 wl) n 0 ⟨rfl, rfl, rfl, rfl, rfl, rfl, trivial⟩
      ⟨Nat.zero_le _, rfl, ⟨bs, hn.symm, own2⟩, Mod.refl _ _⟩ ?_
    rintro m i wl fr0 ⟨hi, rfl, ⟨ys, hys, ownl⟩, ml⟩
    refine if_p (fun hlt => ?_) (fun hge => ?_)
    · replace hlt : (i : Int) < n := hlt
      obtain ⟨gq, cq, hsl, hgq, _⟩ := own_pos ownl (by omega)
      obtain ⟨rfl, _⟩ : A0 = some ⟨gq, 0, none⟩ ∧ c0 = cq := by
        injection hsl with e1 e2 e3
        exact ⟨e1, e3⟩
      have hgl := (hA0 _ rfl).2.1
      obtain ⟨hcx, hfx, hst⟩ := own_store ownl i (by rw [bvs_length]; omega)
      have ex : (⟨gq, 0, none⟩ : Addr).add ((i : Int).toNat * 1) = ⟨gq, i, none⟩ := by rw [Nat.mul_one, Int.toNat_natCast, ad0]
      refine And.intro (by omega) (And.intro hlt (And.intro ⟨_, by rw [ex]; exact hcx⟩ (And.intro (by rw [ex]; exact hfx) ?_)))
      obtain ⟨own7, mod7⟩ := hst (bv 203)
      rw [bvs_set] at own7
      refine ⟨n - (i + 1), i + 1, by omega, ⟨rfl, rfl, rfl, rfl, rfl, ?_, trivial⟩, by omega, rfl, ⟨ys.set i 203, ?_, ?_⟩, ?_⟩
      · show Value.int .i64 (IntKind.i64.wrap _) = _
        rw [wrap_i64 (by omega) (by omega)]
        rfl
      · rw [List.length_set]; exact hys
      · rw [← ex] at own7
        exact own7
      · rw [← ex] at mod7
        have hb7 : ((⟨gq, 0, none⟩ : Addr).add ((i : Int).toNat * 1)).block = gq := by rw [ex]
        exact Mod.trans ml mod7 fun b _ e => by subst e; exact ⟨hgq, hgl⟩
    · have dl : Dk wl w0.heap.size g q vs s := d2.mod ml fun b hb e => by have := (d1.lt b hb).1; omega
      have nl := hfar wl ml
      refine call_ (Dump_ok w0.heap.size g q vs s wl dl (by omega)) ?_
      rintro e w3 ⟨v3, rfl, own3, n3⟩
      rw [hdm] at own3
      obtain ⟨A3, c3, rfl, _, _, row3, hA3⟩ := own_slice own3
      refine ⟨_, rfl, ?_⟩
      have d3 := dl.new n3
      refine call_ (Base.SameBytes_ok A3 A _ c3 _ c bs bs w3 rfl hn row3 (hr.new (nl.trans n3))) ?_
      rintro e w4 ⟨rfl, rfl⟩
      refine ⟨_, rfl, ?_⟩
      refine if_yes (decide_eq_true rfl) ?_
      have hkq : kept ≠ [] → ∀ a, K = some a → a.block ≠ q := fun hke a ha => by
        have h1 := hk.lt (by simpa [ivs] using hke) ha
        have h2 := (d1.lt q (.inr (.inl rfl))).1
        have h3 := n0.size
        omega
      refine call_ (Crash_ok w0.heap.size g q vs s K kn kc kept w4 d3 (by omega) (by omega) (fun c hc => by rw [hid c hc]; exact Nat.zero_le _) (hk.new (nl.trans n3)) hkn hkq) ?_
      rintro e w5 ⟨rfl, vs5, d5, m5, f5⟩
      refine ⟨_, rfl, ?_⟩
      have hcs : (crashDS s kept).cs = s.cs := by rw [crash_idle hid]
      have hfx : New w w5 := Mod.trans (nl.trans n3) m5 fun b hb e => by
        have := (d3.lt b e).1
        have := n0.size
        omega
      refine call_ (Dump_ok w0.heap.size g q vs5 (crashDS s kept) w5 d5 (by rw [hcs]; omega)) ?_
      rintro e w6 ⟨v6, rfl, own6, n6⟩
      rw [hcs, hdm] at own6
      obtain ⟨A6, c6, rfl, _, _, row6, hA6⟩ := own_slice own6
      refine ⟨_, rfl, ?_⟩
      refine call_ (Base.SameBytes_ok A6 A _ c6 _ c bs bs w6 rfl hn row6 (hr.new (hfx.trans n6))) ?_
      rintro e w7 ⟨rfl, rfl⟩
      refine ⟨_, rfl, ?_⟩
      refine if_yes (decide_eq_true rfl) ?_
      refine call_ (works_ok w7) ?_
      rintro e w8 ⟨b8, rfl, rfl, n8⟩
      exact ⟨_, rfl, rfl, (hfx.trans n6).trans n8⟩
end Go.Proofs.YtgfdpojpcpgddaaDoor.Disk

/- The example of the package disk, walked. -/
import Derived.Test.YtgfdpojpcpgddaaDoorDisk7
import Derived.Test.YtgfdpojpcpgddaaDoorBase
namespace Go.Proofs.YtgfdpojpcpgddaaDoor.Disk
open Go Go.Proofs.YtgfdpojpcpgddaaDoor Go.Proofs.YtgfdpojpcpgddaaDoor.Eng Go.Proofs
set_option maxRecDepth 10000

theorem SameInts_ok (A B : Option Addr) (n c m d : Nat) (xs ys : List Int) (w : World) (hn : n = xs.length) (hm : m = ys.length) (ha : Row w A (ivs xs)) (hb : Row w B (ivs ys)) (hbig : n ≤ 9223372036854775807) :
    Calls Tryd.prog 35 #[.slice A n c, .slice B m d] w fun e w' => e = .returned (.bool (decide (xs = ys))) ∧ New w w' := by
  subst hn hm
  refine enter ok Tryd.func35 rfl rfl rfl ?_
  refine if_n (fun hne => ?_) (fun he => ?_)
  · refine ⟨ret_bool ?_, New.refl _⟩
    rw [decide_eq_false]
    intro e
    rw [e] at hne
    exact hne rfl
  have hl : xs.length = ys.length := by omega
  refine den_loop (σ := Nat) (fun i => [(0, .slice A xs.length c), (1, .slice B ys.length d), (5, .int .i64 i)]) (fun m i w' => i ≤ xs.length ∧ m = xs.length - i ∧ xs.take i = ys.take i ∧ New w w') xs.length 0 ⟨rfl, rfl, rfl, trivial⟩ ⟨Nat.zero_le _, rfl, rfl, New.refl _⟩ ?_
  rintro m i w' fr0 ⟨hi, rfl, hp, nw⟩
  refine if_p (fun hlt => ?_) (fun hge => ?_)
  · have hi1 : i < xs.length := by omega
    have hi2 : i < ys.length := by omega
    obtain ⟨a, rfl, hc⟩ := (ha.new nw).at_ i (by simp [ivs]; exact hi1)
    obtain ⟨b, rfl, hc2⟩ := (hb.new nw).at_ i (by simp [ivs]; exact hi2)
    have hv1 : (ivs xs)[i]'(by simp [ivs]; exact hi1) = .int .i64 xs[i] := by simp [ivs]
    have hv2 : (ivs ys)[i]'(by simp [ivs]; exact hi2) = .int .i64 ys[i] := by simp [ivs]
    rw [hv1] at hc
    rw [hv2] at hc2
    refine draw_ ok (.q 0 (.q 1 (.q 2 (.q 3 (.q 4 (.q 5 (.q 6 (.q 7 (.q 8 .done))))))))) [8] (New w') (by kernel_rfl) (by kernel_rfl) (by kernel_rfl) (by kernel_rfl) (by kernel_rfl) (New.drew _) ?_
    refine And.intro (by omega) (And.intro hlt ?_)
    refine Exists.intro xs[i] ?_
    refine And.intro (fun w'' hw => by rw [Nat.mul_one, Int.toNat_natCast]; exact hw.cell hc) ?_
    refine And.intro (by omega) (And.intro (by omega) ?_)
    refine Exists.intro ys[i] ?_
    refine And.intro (fun w'' hw => by rw [Nat.mul_one, Int.toNat_natCast]; exact hw.cell hc2) ?_
    refine if_n (fun hne => ?_) (fun he2 => ?_)
    · refine ⟨ret_bool ?_, nw.trans (New.drew _)⟩
      rw [decide_eq_false]
      intro e
      subst e
      exact hne rfl
    · refine ⟨xs.length - (i + 1), i + 1, by omega, ⟨rfl, rfl, ?_, trivial⟩, by omega, rfl, ?_, nw.trans (New.drew _)⟩
      · show Value.int .i64 (IntKind.i64.wrap _) = _
        rw [wrap_i64 (by omega) (by omega)]
        rfl
      · rw [List.take_succ_eq_append_getElem hi1, List.take_succ_eq_append_getElem hi2, hp, he2]
  · have : i = xs.length := by omega
    subst this
    rw [List.take_length, hl, List.take_length] at hp
    exact ⟨ret_bool (by rw [decide_eq_true hp]), nw⟩

abbrev rep (c : UInt8) : Sec := List.replicate 256 c
theorem fine_fresh (n : Nat) : (fresh n).fine := ⟨by simp [fresh], by simp [fresh], by simp [fresh], by simp [fresh]⟩
theorem row_one (w : World) (z : Int) : Row (w.alloc (.cells #[.int .i64 z] 3)) (some ⟨w.heap.size, 0, none⟩) (ivs [z]) := row_alloc w [.int .i64 z] _ _
def st1 : DS := ⟨[⟨[rep 1], rep 0⟩, ⟨[], rep 0⟩], 1, -1, false⟩
def st2 : DS := ⟨[⟨[rep 1, rep 2], rep 0⟩, ⟨[], rep 0⟩], 2, -1, false⟩
def st3 (k : Nat) : DS := ⟨[⟨[], rep (UInt8.ofNat k)⟩, ⟨[], rep 0⟩], 2, -1, false⟩
theorem est1 : storeDS (fresh 2) 0 (rep 1) = st1 := by
  unfold storeDS
  rw [if_neg (by simp [fresh]), if_pos (by rfl)]
  rfl
theorem est2 : storeDS st1 0 (rep 2) = st2 := by
  unfold storeDS
  rw [if_neg (by simp [st1]), if_pos (by rfl)]
  rfl
theorem ek (k : Nat) (h : k ≤ 2) : kOf [(k : Int)] 0 2 = k := by
  have : k = 0 ∨ k = 1 ∨ k = 2 := by omega
  rcases this with rfl | rfl | rfl <;> decide
theorem est3 (k : Nat) (h : k ≤ 2) : crashDS st2 [(k : Int)] = st3 k := by
  have hc : cached st2.cs = [0] := rfl
  unfold crashDS
  rw [hc]
  have : crashTo st2.cs [(k : Int)] [0] [0].length = [(⟨[rep 1, rep 2], rep 0⟩ : Cl).keep (kOf [(k : Int)] 0 2), ⟨[], rep 0⟩] := rfl
  rw [this, ek k h]
  have hk : k = 0 ∨ k = 1 ∨ k = 2 := by omega
  rcases hk with rfl | rfl | rfl <;> rfl
theorem fine1 : st1.fine := ⟨by decide, by decide, by decide, by decide⟩
theorem rep_len (c : UInt8) : (rep c).length = 256 := List.length_replicate
theorem Dk.apart_new {w : World} {base g q : Nat} {vs : Nat → Value} {s : DS} (h : Dk w base g q vs s) {b : Nat} (hb : w.heap.size ≤ b) : ¬ DSet g q s.cs.length vs b := fun h' => by
  have := (h.lt b h').2
  omega
/-- What a disk's act turns is new, if the disk is. -/
theorem Dk.newD {w0 w w' : World} {g q : Nat} {vs : Nat → Value} {s : DS} (h : Dk w w0.heap.size g q vs s) (n : New w0 w) (m : Mod (DSet g q s.cs.length vs) w w') : New w0 w' :=
  Mod.trans n m fun b hb e => by
    have := (h.lt b e).1
    omega
theorem byteOf (k : Nat) : Value.int .u8 (IntKind.u8.wrap (k : Int)) = bv (UInt8.ofNat k) := by
  unfold bv
  rw [IntKind.wrap_u8, UInt8.toNat_ofNat']
  congr 1
theorem works_ok (w : World) : Calls Tryd.prog 12 #[] w fun e w' => ∃ b, b = true ∧ e = .returned (.bool b) ∧ New w w' := by
  refine enter ok Tryd.func12 rfl rfl rfl ?_
  refine den_loop (σ := Nat) (fun k => [(1, .int .i64 k)]) (fun m k wl => k ≤ 3 ∧ m = 3 - k ∧ New w wl) 3 0 ⟨rfl, trivial⟩ ⟨Nat.zero_le _, rfl, New.refl _⟩ ?_
  rintro m k wl fr0 ⟨hk, rfl, nl⟩
  refine if_p (fun hlt => ?_) (fun hge => ?_)
  rotate_left
  · exact ⟨true, rfl, rfl, nl⟩
  have hk2 : k ≤ 2 := by omega
  refine call_ (Make_ok 2 wl (by omega) (by omega)) ?_
  rintro e w1 ⟨g, q, rfl, d1, n1⟩
  refine ⟨_, rfl, ?_⟩
  refine call_ (of_ok 1 w1) ?_
  rintro e w2 ⟨v2, rfl, own2, n2⟩
  obtain ⟨A2, c2, rfl, hc2, ht2, row2, hA2⟩ := own_slice own2
  refine ⟨_, rfl, ?_⟩
  have d2 := d1.new n2
  have hS := Store_ok wl.heap.size g q _ (fresh 2) 0 A2 256 c2 (rep 1) w2 d2 (fine_fresh 2) rfl row2 (by decide) (by decide) (by intro c hc; simp [fresh] at hc; rw [hc]; simp) (fun b hb => d1.apart_new (hA2 b hb).1) (by have := (d1.lt g (.inl rfl)); have := n2.size; omega)
  rw [est1] at hS
  refine call_ hS ?_
  rintro e w3 ⟨rfl, vs3, d3, m3, f3⟩
  refine ⟨_, rfl, ?_⟩
  have nl2 := (nl.trans n1).trans n2
  have k3 : New wl w3 := d2.newD (n1.trans n2) m3
  refine call_ (of_ok 2 w3) ?_
  rintro e w4 ⟨v4, rfl, own4, n4⟩
  obtain ⟨A4, c4, rfl, hc4, ht4, row4, hA4⟩ := own_slice own4
  refine ⟨_, rfl, ?_⟩
  have d4 := d3.new n4
  have hS2 := Store_ok wl.heap.size g q _ st1 0 A4 256 c4 (rep 2) w4 d4 fine1 rfl row4 (by decide) (by decide) (by intro c hc; simp [st1] at hc; rcases hc with rfl | rfl <;> simp) (fun b hb => d3.apart_new (hA4 b hb).1) (by have := (d3.lt g (.inl rfl)); have := n4.size; omega)
  rw [est2] at hS2
  refine call_ hS2 ?_
  rintro e w5 ⟨rfl, vs5, d5, m5, f5⟩
  refine ⟨_, rfl, ?_⟩
  have k5 : New wl w5 := d4.newD (k3.trans n4) m5
  refine call_ (Cached_ok wl.heap.size g q vs5 st2 w5 d5 (by decide)) ?_
  rintro e w6 ⟨v6, rfl, own6, n6⟩
  have hcc : cached st2.cs = [0] := rfl
  rw [hcc] at own6
  obtain ⟨A6, c6, rfl, hc6, ht6, row6, hA6⟩ := own_slice own6
  refine ⟨_, rfl, ?_⟩
  have a6 := New.alloc w6 (.cells #[.int .i64 0] 3)
  have hSI : Calls Tryd.prog 35 #[.slice A6 1 c6, .slice (some ⟨w6.heap.size, 0, none⟩) 1 1] (w6.alloc (.cells #[.int .i64 0] 3)) fun e w' => e = .returned (.bool true) ∧ New (w6.alloc (.cells #[.int .i64 0] 3)) w' := by
    refine (SameInts_ok A6 (some ⟨w6.heap.size, 0, none⟩) 1 c6 1 1 [0] [0] _ rfl rfl (row6.new a6) (row_one w6 0) (by decide)).mono ?_
    rintro e w' ⟨rfl, n⟩
    exact ⟨by rw [decide_eq_true rfl], n⟩
  refine call_ hSI ?_
  rintro e w7 ⟨rfl, n7⟩
  refine ⟨_, rfl, ?_⟩
  have n57 := (n6.trans a6).trans n7
  have d7 := d5.new n57
  refine call_ (Moves_ok wl.heap.size g q vs5 st2 w7 d7) ?_
  rintro e w8 ⟨rfl, rfl⟩
  refine ⟨_, rfl, ?_⟩
  have a8 := New.alloc w8 (.cells #[.int .i64 (k : Int)] 3)
  have hC := Crash_ok wl.heap.size g q vs5 st2 (some ⟨w8.heap.size, 0, none⟩) 1 1 [(k : Int)] (w8.alloc (.cells #[.int .i64 (k : Int)] 3)) (d7.new a8) (by decide) (by decide) (by intro c hc; simp [st2] at hc; rcases hc with rfl | rfl <;> simp) (row_one w8 k) rfl (fun _ a ha => by cases ha; have := (d7.lt q (.inr (.inl rfl))).2; exact Nat.ne_of_gt this)
  rw [est3 k hk2] at hC
  refine call_ hC ?_
  rintro e w9 ⟨rfl, vs9, d9, m9, f9⟩
  refine ⟨_, rfl, ?_⟩
  have k9 : New wl w9 := (d7.new a8).newD ((k5.trans n57).trans a8) m9
  have hF := Fetch_ok wl.heap.size g q vs9 (st3 k) 0 w9 d9 (by show 0 < 2; decide) (by show 2 ≤ 4096; decide)
  have he : fetchErr (st3 k) 0 = 0 := rfl
  have hb : fetchBs (st3 k) 0 = rep (UInt8.ofNat k) := rfl
  rw [he, hb] at hF
  refine call_ hF ?_
  rintro e w10 ⟨v10, rfl, ans10, n10⟩
  obtain ⟨A10, c10, rfl, row10, hA10⟩ := ans10.row
  refine ⟨_, rfl, ?_⟩
  have hof := of_ok (UInt8.ofNat k) w10
  rw [← byteOf] at hof
  refine call_ hof ?_
  rintro e w11 ⟨v11, rfl, own11, n11⟩
  obtain ⟨A11, c11, rfl, hc11, ht11, row11, hA11⟩ := own_slice own11
  refine ⟨_, rfl, ?_⟩
  refine call_ (Base.SameBytes_ok A10 A11 _ c10 256 c11 (rep (UInt8.ofNat k)) (rep (UInt8.ofNat k)) w11 rfl (rep_len _).symm (row10.new n11) row11) ?_
  rintro e w12 ⟨rfl, rfl⟩
  refine ⟨_, rfl, ?_⟩
  refine if_n (fun hne => absurd rfl hne) (fun _ => ?_)
  have d12 := d9.new (n10.trans n11)
  have hD := Dump_ok wl.heap.size g q vs9 (st3 k) w12 d12 (by show 2 ≤ 4096; decide)
  have hdl : (dump (st3 k).cs).length = 512 := dump_len (st3 k).cs d12.oks
  rw [hdl] at hD
  refine call_ hD ?_
  rintro e w13 ⟨v13, rfl, own13, n13⟩
  obtain ⟨A13, c13, rfl, _⟩ := own_slice own13
  refine ⟨_, rfl, ?_⟩
  refine ⟨3 - (k + 1), k + 1, by omega, ⟨?_, trivial⟩, by omega, rfl, nl.trans (New.trans k9 ((n10.trans n11).trans n13))⟩
  show Value.int .i64 (IntKind.i64.wrap _) = _
  rw [wrap_i64 (by omega) (by omega)]
  rfl
end Go.Proofs.YtgfdpojpcpgddaaDoor.Disk

/- The document's disk, walked: a store, a barrier. -/
import Derived.Test.YtgfdpojpcpgddaaDoorDRef2
namespace Go.Proofs.YtgfdpojpcpgddaaDoor.Disk
open Go Go.Proofs.YtgfdpojpcpgddaaDoor Go.Proofs.YtgfdpojpcpgddaaDoor.Eng Go.Proofs
set_option maxRecDepth 10000

theorem vals_put (c : Cl) (x : Sec) : vals (c.put x) = vals c ++ [strV x] := by simp [vals, Cl.put]
theorem RStore_ok (base g q vc : Nat) (L : List Value) (s : DS) (at_ : Int) (B : Option Addr) (n cb : Nat) (x : Sec) (w : World) (h : Rk w base g q vc L s) (hf : s.fine) (hn : n = x.length) (hB : Row w B (bvs x)) (hn4 : s.cs.length ≤ 4096) (hl : ∀ c ∈ s.cs, c.ws.length ≤ 100000) (hBo : ∀ a, B = some a → a.block ≠ g) :
    Calls Tryd.prog 27 #[.pointer (some ⟨g, 0, none⟩), .int .i64 at_, .slice B n cb] w fun e w' => e = .returned (.int .i64 (storeErr s at_ n)) ∧
      ∃ L', Rk w' base g q vc L' (storeDS s at_ x) ∧ Mod (RW g q) w w' ∧ ∀ b, RSet g q L' b → RSet g q L b ∨ w.heap.size ≤ b := by
  refine enter ok Tryd.func27 rfl rfl rfl ?_
  have no : (at_ < 0 ∨ (s.cs.length : Int) ≤ at_ ∨ n ≠ 256) → ∀ w', w' = w → Ending.returned (.int .i64 2) = .returned (.int .i64 (storeErr s at_ n)) ∧ ∃ L', Rk w' base g q vc L' (storeDS s at_ x) ∧ Mod (RW g q) w w' ∧ ∀ b, RSet g q L' b → RSet g q L b ∨ w.heap.size ≤ b := by
    rintro hb w' rfl
    refine ⟨by unfold storeErr; rw [if_pos hb], L, ?_, Mod.refl _ _, fun b hb => .inl hb⟩
    unfold storeDS
    rw [if_pos (by rw [← hn]; exact hb)]
    exact h
  refine if_p (fun h0 => ?_) (fun h0 => ?_)
  · exact no (.inl h0) _ rfl
  refine Exists.intro (some ⟨q, 0, none⟩) (Exists.intro s.cs.length (Exists.intro vc ?_))
  refine And.intro (by rw [ad0]; exact h.c0) ?_
  refine if_p (fun h1 => ?_) (fun h1 => ?_)
  · exact no (.inr (.inl h1)) _ rfl
  refine if_n (fun h2 => ?_) (fun h2 => ?_)
  · exact no (.inr (.inr (by omega))) _ rfl
  replace h0 : ¬ at_ < 0 := h0
  replace h1 : ¬ (s.cs.length : Int) ≤ at_ := h1
  replace h2 : (n : Int) = 256 := h2
  have hgood : ¬ (at_ < 0 ∨ (s.cs.length : Int) ≤ at_ ∨ n ≠ 256) := by omega
  have herr : storeErr s at_ n = if s.can = true then 0 else 10 := by unfold storeErr; rw [if_neg hgood]
  have hds : storeDS s at_ x = if s.can = true then { s.mv with cs := s.cs.set at_.toNat ((s.cs.getD at_.toNat ⟨[], []⟩).put x) } else s.mv := by unfold storeDS; rw [if_neg (by rw [← hn]; exact hgood)]
  rw [herr, hds]
  refine call_ (RMove_ok base g q vc L s w h hf) ?_
  rintro e w1 ⟨rfl, h1', m1⟩
  refine ⟨_, rfl, ?_⟩
  refine if_ (fun hc => ?_) (fun hc => ?_)
  · replace hc : s.can = false := by simpa using hc
    rw [hc]
    rw [if_neg (by simp), if_neg (by simp)]
    exact ⟨rfl, L, h1', m1.mono fun _ _ h => .inl h, fun b hb => .inl hb⟩
  replace hc : s.can = true := by simpa using hc
  rw [hc]
  rw [if_pos rfl, if_pos rfl]
  obtain ⟨i, rfl⟩ : ∃ i : Nat, at_ = i := ⟨at_.toNat, by omega⟩
  have hil : i < s.cs.length := by omega
  have hil' : i < s.mv.cs.length := by rw [DS.mv_cs]; exact hil
  have hcs : s.mv.cs[i] = s.cs[i] := by simp only [DS.mv_cs]
  have hg : s.cs.getD (i : Int).toNat ⟨[], []⟩ = s.cs[i] := by rw [Int.toNat_natCast, List.getD_eq_getElem?_getD, List.getElem?_eq_getElem hil]; rfl
  have hset : { s.mv with cs := s.mv.cs.set i (s.cs[i].put x) } = { s.mv with cs := s.cs.set (i : Int).toNat ((s.cs.getD (i : Int).toNat ⟨[], []⟩).put x) } := by rw [hg, DS.mv_cs, Int.toNat_natCast]
  rw [← hset]
  have hlen1 : s.mv.cs.length = s.cs.length := by rw [DS.mv_cs]
  obtain ⟨A, m, hcell, hrow, hm1, hm2, hok⟩ := h1'.sec i hil'
  have hc0 := h1'.c0
  rw [hcs] at hcell hrow hm1 hok
  rw [hlen1] at hc0
  have hwl : s.cs[i].ws.length ≤ 100000 := hl _ (List.getElem_mem hil)
  generalize hcc : s.cs[i] = c at hcell hrow hm1 hok hwl
  have hvl := vals_len c
  have hvp : (vals (c.put x)).length = (vals c).length + 1 := by rw [vals_put, List.length_append]; rfl
  generalize s.mv = s1 at h1' hil' hlen1
  have hBx : Row w1 B (bvs x) := hB.mod m1 fun a ha => hBo a ha
  have ex : (⟨q, 0, none⟩ : Addr).add ((i : Int).toNat * 1) = ⟨q, i, none⟩ := by rw [Nat.mul_one, Int.toNat_natCast, ad0]
  have one1 : ∀ u ∈ [strV x], u.oneCell' = true := by intro u hu; rw [List.mem_singleton.1 hu]; rfl
  refine seq_cut (σ := List Value) (fun _ => []) (fun L' w6 => Rk w6 base g q vc L' { s1 with cs := s1.cs.set i (c.put x) } ∧ Mod (RW g q) w w6 ∧ ∀ b, RSet g q L' b → RSet g q L b ∨ w.heap.size ≤ b) ?_ ?_
  · rintro L' w6 fr6 ⟨h6, m6, f6⟩
    exact ⟨rfl, L', h6, m6, f6⟩
  intro K hK
  -- what the new list is, at the end
  have fin : ∀ (A5 : Option Addr) (n5 c5 : Nat) (w5 : World), n5 = (vals c).length + 1 → New w1 w5 → w5.ownsRow w1.heap.size 9 1 (.slice A5 n5 c5) n5 (vals c ++ [strV x]) →
      (∃ u, w5.cell? ⟨q, i, none⟩ = some u) ∧ w5.frozen? ⟨q, i, none⟩ = false ∧ Rk (w5.setCell ⟨q, i, none⟩ (.slice A5 n5 c5)) base g q vc (L.set i (.slice A5 n5 c5)) { s1 with cs := s1.cs.set i (c.put x) } ∧ Mod (RW g q) w (w5.setCell ⟨q, i, none⟩ (.slice A5 n5 c5)) ∧ ∀ b, RSet g q (L.set i (.slice A5 n5 c5)) b → RSet g q L b ∨ w.heap.size ≤ b := by
    rintro A5 n5 c5 w5 rfl k5 own5
    obtain ⟨_, _, he, hc5, ht5, row5, hA5⟩ := own_slice own5
    cases he
    have hs1 := h1'.lt
    have hsv : SV w5 g q (.slice A5 ((vals c).length + 1) c5) (c.put x) := ⟨A5, c5, by rw [hvp], by rw [vals_put]; exact row5, by rw [hvp]; exact hc5, ht5, fun a ha => by
      have := hA5 a ha
      exact ⟨by omega, by omega, this.2.1⟩, hok.put (by omega)⟩
    obtain ⟨p1, p2, p3, p4⟩ := (h1'.new k5).put i hil' _ _ hsv
    refine ⟨p1, p2, p3, ?_, ?_⟩
    · refine Mod.trans (Mod.trans (m1.mono fun _ _ h => .inl h) k5 fun b _ e => e.elim) p4 fun b _ e => .inr e
    · intro b hb
      refine RSet.set hb fun b hb => ?_
      have hw1 := m1.size
      cases A5 with
      | none => cases hb
      | some a => cases hb; have := (hA5 a rfl).1; omega
  refine draw_ ok (.q 0 (.q 1 (.q 2 (.q 3 (.q 4 (.q 6 (.q 7 (.q 8 (.q 9 (.q 10 (.q 11 (.q 12 (.q 14 (.q 15 (.br (.e 5 (.br (.e 13 (.e 16 (.e 17 (.q 18 (.e 19 .done))))) (.e 16 (.e 13 (.e 17 (.q 18 (.e 19 .done))))))) (.e 16 (.e 5 (.e 13 (.e 17 (.q 18 (.e 19 .done))))))))))))))))))))) [19] (New w1) (by kernel_rfl) (by kernel_rfl) (by kernel_rfl) (by kernel_rfl) (by kernel_rfl) (New.drew _) ?_
  refine Exists.intro (some ⟨q, 0, none⟩) (Exists.intro s.cs.length (Exists.intro vc ?_))
  refine And.intro (fun w'' hw => by rw [ad0]; exact hw.cell hc0) ?_
  refine Exists.intro (some ⟨q, 0, none⟩) (Exists.intro s.cs.length (Exists.intro vc ?_))
  refine And.intro (fun w'' hw => by rw [ad0]; exact hw.cell hc0) ?_
  refine And.intro (by omega) (And.intro (by omega) ?_)
  refine Exists.intro A (Exists.intro (vals c).length (Exists.intro m ?_))
  refine And.intro (fun w'' hw => by rw [ex]; exact hw.cell hcell) ?_
  refine Exists.intro x ?_
  refine And.intro hn.symm (And.intro (fun w'' hw => hBx.new hw) ?_)
  refine And.intro ?_ ?_
  · have own5 := own_lit w1.drew [] 9 1 0 w1.heap.size ((New.drew w1)).size rfl (by omega)
    have k5 := (New.drew w1).trans (New.alloc w1.drew (.cells #[] 9))
    refine Exists.intro (New w1) (And.intro (fun _ h => h) (And.intro k5 ?_))
    refine And.intro ?_ ?_
    · refine eff_app rfl rfl (fun _ _ => rfl) ?_
      refine append2_ ok rfl rfl rfl rfl own5 rfl rfl (hrow.new k5) (by simp) (str_one _) (by decide) rfl (by show (0 + (vals c).length) * 16 ≤ _; omega) (by omega) (k5).size ?_
      intro A13 c13 w13 own13 mod13 st13
      have k13 : New w1 w13 := Mod.trans k5 mod13 fun b hb e => by have := (own5.lt b e.symm).1; omega
      refine Exists.intro (New w1) (And.intro (fun _ h => h) (And.intro k13 ?_))
      refine eff_build (xs := [strV x]) rfl rfl rfl rfl rfl rfl rfl rfl rfl ?_
      have row16 : Row (w13.alloc (.cells #[strV x] 9)) (some ⟨w13.heap.size, 0, none⟩) [strV x] := row_alloc w13 [strV x] _ _
      have k16 := k13.trans (New.alloc w13 (.cells #[strV x] 9))
      have own16 := own_new (New.alloc w13 (.cells #[strV x] 9)) own13
      refine Exists.intro (New w1) (And.intro (fun _ h => h) (And.intro k16 ?_))
      refine eff_app rfl rfl (fun _ _ => rfl) ?_
      refine append2_ ok rfl rfl rfl rfl own16 rfl rfl row16 rfl one1 (by decide) rfl (by show (0 + (vals c).length + 1) * 16 ≤ _; omega) (by omega) (k16).size ?_
      intro A17 c17 w17 own17 mod17 st17
      have k17 : New w1 w17 := Mod.trans k16 mod17 fun b hb e => by have := (own16.lt b e.symm).1; omega
      refine Exists.intro (New w1) (And.intro (fun _ h => h) (And.intro k17 ?_))
      obtain ⟨p1, p2, p3, p4, p5⟩ := fin A17 _ c17 w17 (by rw [Nat.zero_add]) k17 own17
      refine And.intro (by omega) (And.intro (by omega) ?_)
      refine And.intro (by rw [ex]; exact p1) (And.intro (by rw [ex]; exact p2) ?_)
      rw [ex]
      exact hK _ _ _ trivial ⟨p3, p4, p5⟩
    · refine eff_build (xs := [strV x]) rfl rfl rfl rfl rfl rfl rfl rfl rfl ?_
      have row16 : Row ((w1.drew.alloc (.cells #[] 9)).alloc (.cells #[strV x] 9)) (some ⟨(w1.drew.alloc (.cells #[] 9)).heap.size, 0, none⟩) [strV x] := row_alloc (w1.drew.alloc (.cells #[] 9)) [strV x] _ _
      have k16 := k5.trans (New.alloc (w1.drew.alloc (.cells #[] 9)) (.cells #[strV x] 9))
      have own16 := own_new (New.alloc (w1.drew.alloc (.cells #[] 9)) (.cells #[strV x] 9)) own5
      refine Exists.intro (New w1) (And.intro (fun _ h => h) (And.intro k16 ?_))
      refine eff_app rfl rfl (fun _ _ => rfl) ?_
      refine append2_ ok rfl rfl rfl rfl own16 rfl rfl (hrow.new k16) (by simp) (str_one _) (by decide) rfl (by show (0 + (vals c).length) * 16 ≤ _; omega) (by omega) (k16).size ?_
      intro A13 c13 w13 own13 mod13 st13
      have k13 : New w1 w13 := Mod.trans k16 mod13 fun b hb e => by have := (own16.lt b e.symm).1; omega
      have row16b : Row w13 (some ⟨(w1.drew.alloc (.cells #[] 9)).heap.size, 0, none⟩) [strV x] := row16.mod mod13 (fun a ha e => by cases ha; simp [Value.ownBlock] at e)
      refine Exists.intro (New w1) (And.intro (fun _ h => h) (And.intro k13 ?_))
      refine eff_app rfl rfl (fun _ _ => rfl) ?_
      refine append2_ ok rfl rfl rfl rfl own13 rfl rfl row16b rfl one1 (by decide) rfl (by show (0 + (vals c).length + 1) * 16 ≤ _; omega) (by omega) (k13).size ?_
      intro A17 c17 w17 own17 mod17 st17
      have k17 : New w1 w17 := Mod.trans k13 mod17 fun b hb e => by have := (own13.lt b e.symm).1; omega
      refine Exists.intro (New w1) (And.intro (fun _ h => h) (And.intro k17 ?_))
      obtain ⟨p1, p2, p3, p4, p5⟩ := fin A17 _ c17 w17 (by rw [Nat.zero_add]) k17 own17
      refine And.intro (by omega) (And.intro (by omega) ?_)
      refine And.intro (by rw [ex]; exact p1) (And.intro (by rw [ex]; exact p2) ?_)
      rw [ex]
      exact hK _ _ _ trivial ⟨p3, p4, p5⟩
  · refine eff_build (xs := [strV x]) rfl rfl rfl rfl rfl rfl rfl rfl rfl ?_
    have row16 : Row (w1.drew.alloc (.cells #[strV x] 9)) (some ⟨w1.drew.heap.size, 0, none⟩) [strV x] := row_alloc w1.drew [strV x] _ _
    have k16 := (New.drew w1).trans (New.alloc w1.drew (.cells #[strV x] 9))
    refine Exists.intro (New w1) (And.intro (fun _ h => h) (And.intro k16 ?_))
    have own5 := own_lit (w1.drew.alloc (.cells #[strV x] 9)) [] 9 1 0 w1.heap.size (k16).size rfl (by omega)
    have k5 := k16.trans (New.alloc (w1.drew.alloc (.cells #[strV x] 9)) (.cells #[] 9))
    have row16c := row16.new (New.alloc (w1.drew.alloc (.cells #[strV x] 9)) (.cells #[] 9))
    refine Exists.intro (New w1) (And.intro (fun _ h => h) (And.intro k5 ?_))
    refine eff_app rfl rfl (fun _ _ => rfl) ?_
    refine append2_ ok rfl rfl rfl rfl own5 rfl rfl (hrow.new k5) (by simp) (str_one _) (by decide) rfl (by show (0 + (vals c).length) * 16 ≤ _; omega) (by omega) (k5).size ?_
    intro A13 c13 w13 own13 mod13 st13
    have k13 : New w1 w13 := Mod.trans k5 mod13 fun b hb e => by have := (own5.lt b e.symm).1; omega
    have row16b : Row w13 (some ⟨w1.drew.heap.size, 0, none⟩) [strV x] := row16c.mod mod13 (fun a ha e => by cases ha; simp [Value.ownBlock] at e)
    refine Exists.intro (New w1) (And.intro (fun _ h => h) (And.intro k13 ?_))
    refine eff_app rfl rfl (fun _ _ => rfl) ?_
    refine append2_ ok rfl rfl rfl rfl own13 rfl rfl row16b rfl one1 (by decide) rfl (by show (0 + (vals c).length + 1) * 16 ≤ _; omega) (by omega) (k13).size ?_
    intro A17 c17 w17 own17 mod17 st17
    have k17 : New w1 w17 := Mod.trans k13 mod17 fun b hb e => by have := (own13.lt b e.symm).1; omega
    refine Exists.intro (New w1) (And.intro (fun _ h => h) (And.intro k17 ?_))
    obtain ⟨p1, p2, p3, p4, p5⟩ := fin A17 _ c17 w17 (by rw [Nat.zero_add]) k17 own17
    refine And.intro (by omega) (And.intro (by omega) ?_)
    refine And.intro (by rw [ex]; exact p1) (And.intro (by rw [ex]; exact p2) ?_)
    rw [ex]
    exact hK _ _ _ trivial ⟨p3, p4, p5⟩

theorem RBarrier_ok (base g q vc : Nat) (L : List Value) (s : DS) (w : World) (h : Rk w base g q vc L s) (hf : s.fine) (hn4 : s.cs.length ≤ 4096) (hl : ∀ c ∈ s.cs, c.ws.length ≤ 100000) :
    Calls Tryd.prog 28 #[.pointer (some ⟨g, 0, none⟩)] w fun e w' => e = .returned (.int .i64 (if s.can = true then 0 else 10)) ∧
      ∃ L', Rk w' base g q vc L' (barDS s) ∧ Mod (RW g q) w w' ∧ ∀ b, RSet g q L' b → RSet g q L b ∨ w.heap.size ≤ b := by
  refine enter ok Tryd.func28 rfl rfl rfl ?_
  have hds : barDS s = if s.can = true then { s.mv with cs := s.cs.map Cl.settle } else s.mv := rfl
  rw [hds]
  refine call_ (RMove_ok base g q vc L s w h hf) ?_
  rintro e w1 ⟨rfl, h1, m1⟩
  refine ⟨_, rfl, ?_⟩
  refine if_ (fun hc => ?_) (fun hc => ?_)
  · replace hc : s.can = false := by simpa using hc
    rw [hc]
    rw [if_neg (by simp), if_neg (by simp)]
    exact ⟨rfl, L, h1, m1.mono fun _ _ h => .inl h, fun b hb => .inl hb⟩
  replace hc : s.can = true := by simpa using hc
  rw [hc]
  rw [if_pos rfl, if_pos rfl]
  have ini : s.mv = { s.mv with cs := settled s.cs 0 } := by
    have : settled s.cs 0 = s.mv.cs := by simp [settled, DS.mv_cs]
    rw [this]
  rw [ini] at h1
  refine den_loop (σ := Nat × List Value) (fun t => [(0, .pointer (some ⟨g, 0, none⟩)), (3, .int .i64 t.1)])
    (fun m t wl => t.1 ≤ s.cs.length ∧ m = s.cs.length - t.1 ∧ Rk wl base g q vc t.2 { s.mv with cs := settled s.cs t.1 } ∧ Mod (RW g q) w wl ∧ ∀ b, RSet g q t.2 b → RSet g q L b ∨ w.heap.size ≤ b) s.cs.length (0, L) ⟨rfl, rfl, trivial⟩ ⟨Nat.zero_le _, rfl, h1, m1.mono fun _ _ h => .inl h, fun b hb => .inl hb⟩ ?_
  rintro m ⟨i, L1⟩ wl fr0 ⟨hi, rfl, hk, ml, fl⟩
  dsimp only at hi hk ml fl
  have hc0 := hk.c0
  have hset := settled_set s.cs i
  have hget := settled_get s.cs i
  have hsl := settled_len s.cs i
  rw [show ({ s.mv with cs := settled s.cs i } : DS).cs.length = s.cs.length from hsl] at hc0
  refine Exists.intro (some ⟨q, 0, none⟩) (Exists.intro s.cs.length (Exists.intro vc ?_))
  refine And.intro (by rw [ad0]; exact hc0) ?_
  refine if_p (fun hlt => ?_) (fun hge => ?_)
  rotate_left
  · replace hge : ¬ (i : Int) < s.cs.length := hge
    have hin : i = s.cs.length := by omega
    subst hin
    rw [settled_all] at hk
    exact ⟨rfl, L1, hk, ml, fl⟩
  replace hlt : (i : Int) < s.cs.length := hlt
  have hil : i < s.cs.length := by omega
  replace hset := hset hil
  replace hget := hget hil
  have hil' : i < ({ s.mv with cs := settled s.cs i } : DS).cs.length := by rw [hsl]; exact hil
  have hgi : ({ s.mv with cs := settled s.cs i } : DS).cs[i] = s.cs[i] := by
    have := hget
    rw [List.getElem?_eq_getElem (by omega)] at this
    exact Option.some.inj this
  have hLast := RLast_ok base g q vc L1 { s.mv with cs := settled s.cs i } i hil' wl.drew (hk.new (New.drew wl)) (by rw [hgi]; exact hl _ (List.getElem_mem hil))
  rw [hgi] at hLast
  have ex : (⟨q, 0, none⟩ : Addr).add ((i : Int).toNat * 1) = ⟨q, i, none⟩ := by rw [Nat.mul_one, Int.toNat_natCast, ad0]
  have hok := hk.oks s.cs[i] (List.mem_of_getElem? hget)
  refine draw_ ok (.q 0 (.q 1 (.q 2 (.q 3 (.q 4 (.q 5 (.q 6 (.e 7 (.e 8 (.q 9 (.e 10 .done))))))))))) [10] (New wl) (by kernel_rfl) (by kernel_rfl) (by kernel_rfl) (by kernel_rfl) (by kernel_rfl) (New.drew _) ?_
  refine Exists.intro (some ⟨q, 0, none⟩) (Exists.intro s.cs.length (Exists.intro vc ?_))
  refine And.intro (fun w'' hw => by rw [ad0]; exact hw.cell hc0) ?_
  refine call_ hLast ?_
  rintro e w2 ⟨rfl, n2⟩
  refine ⟨_, rfl, ?_⟩
  have k2 := (New.drew wl).trans n2
  refine Exists.intro (New wl) (And.intro (fun _ h => h) (And.intro k2 ?_))
  refine eff_build (xs := [strV s.cs[i].now]) rfl rfl rfl rfl rfl rfl rfl rfl rfl ?_
  have k3 := k2.trans (New.alloc w2 (.cells #[strV s.cs[i].now] 9))
  refine Exists.intro (New wl) (And.intro (fun _ h => h) (And.intro k3 ?_))
  refine And.intro (by omega) (And.intro hlt ?_)
  have hs2 := k2.size
  have hlt2 := hk.lt
  have hz : (w2.alloc (.cells #[strV s.cs[i].now] 9)).heap.size = w2.heap.size + 1 := by simp
  have hsv : SV (w2.alloc (.cells #[strV s.cs[i].now] 9)) g q (.slice (some ⟨w2.heap.size, 0, none⟩) 1 1) s.cs[i].settle :=
    ⟨_, _, rfl, row_alloc w2 [strV s.cs[i].now] _ _, Nat.le_refl _, by decide, fun a ha => by cases ha; exact ⟨by show w2.heap.size ≠ g; omega, by show w2.heap.size ≠ q; omega, by rw [hz]; exact Nat.lt_succ_self _⟩, by rw [← Cl.keep_all]; exact hok.keep _ (Nat.le_refl _)⟩
  obtain ⟨p1, p2, p3, p4⟩ := (hk.new k3).put i hil' _ _ hsv
  refine And.intro (by rw [ex]; exact p1) (And.intro (by rw [ex]; exact p2) ?_)
  have hw1 := ml.size
  refine ⟨s.cs.length - (i + 1), (i + 1, L1.set i (.slice (some ⟨w2.heap.size, 0, none⟩) 1 1)), by omega, ⟨rfl, ?_, trivial⟩, by show i + 1 ≤ _; omega, rfl, ?_, ?_, ?_⟩
  · show Value.int .i64 (IntKind.i64.wrap _) = _
    rw [wrap_i64 (by omega) (by omega)]
    rfl
  · rw [ex]
    dsimp only at p3
    rw [hset] at p3
    exact p3
  · rw [ex]
    refine Mod.trans (Mod.trans ml k3 fun b _ e => e.elim) p4 fun b _ e => .inr e
  · intro b hb
    rcases RSet.set (n := w.heap.size) hb (fun b hb => by cases hb; show w.heap.size ≤ w2.heap.size; omega) with h | h
    · exact fl b h
    · exact .inr h
end Go.Proofs.YtgfdpojpcpgddaaDoor.Disk

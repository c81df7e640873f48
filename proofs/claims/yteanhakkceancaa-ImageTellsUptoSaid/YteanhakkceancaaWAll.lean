/- The package word, walked: numbers written, bytes written, patched, all that was written. -/
import Derived.Test.YteanhakkceancaaWWrite
namespace Go.Proofs.Yteanhakkceancaa.Word
open Go Go.Proofs.Yteanhakkceancaa Go.Proofs.Yteanhakkceancaa.Eng Go.Proofs
set_option maxRecDepth 10000

/-- Do all go? -/
def good (k : Int) (sign : Bool) (zs : List Int) : Bool := wide k && !zs.any (fun n => !fits k n sign)
def allErr (k : Int) (sign : Bool) (zs : List Int) : Int := if good k sign zs = true then 0 else 2
def allBs (bs : List UInt8) (k : Int) (sign : Bool) (zs : List Int) : List UInt8 := if good k sign zs = true then bs ++ zs.flatMap (enc k.toNat) else bs
theorem flat_take (zs : List Int) (k i : Nat) (h : i < zs.length) : (zs.take (i + 1)).flatMap (enc k) = (zs.take i).flatMap (enc k) ++ enc k zs[i] := by
  rw [List.take_succ_eq_append_getElem h, List.flatMap_append]
  simp
theorem flat_length (k : Nat) : ∀ zs : List Int, (zs.flatMap (enc k)).length = k * zs.length
  | [] => by simp
  | z :: zs => by
    rw [List.flatMap_cons, List.length_append, enc_length, flat_length k zs, List.length_cons, Nat.mul_succ]
    omega
/-- What a writer's act may turn. -/
abbrev WS (g : Nat) (v : Value) : Nat → Prop := fun b => b = g ∨ some b = v.ownBlock
theorem stayed.trans {w w1 : World} {v v1 v2 : Value} (h : stayed w v v1) (hs : w.heap.size ≤ w1.heap.size) (k : stayed w1 v1 v2) : stayed w v v2 := by
  intro b hb
  rcases k b hb with h1 | h1
  · exact h b h1
  · exact .inr (Nat.le_trans hs h1)
theorem stayed.refl (w : World) (v : Value) : stayed w v v := fun _ h => .inl h

theorem all_ok (base g : Nat) (v : Value) (bs : List UInt8) (k : Int) (sign : Bool) (C : Option Addr) (q qc : Nat) (zs : List Int) (w : World) (h : Wr w base g v bs) (hz : Row w C (ivs zs)) (hq : q = zs.length) (hC : ∀ a, C = some a → zs ≠ [] → ¬ WS g v a.block)
    (hm : bs.length + 8 * zs.length ≤ 140737488355328) (hbase : base ≤ w.heap.size) :
    Calls Try.prog 77 #[.pointer (some ⟨g, 0, none⟩), .int .i64 k, .bool sign, .slice C q qc] w fun e w' => e = .returned (.int .i64 (allErr k sign zs)) ∧ ∃ v', Wr w' base g v' (allBs bs k sign zs) ∧ Mod (WS g v) w w' ∧ stayed w v v' := by
  refine enter ok Try.func77 rfl rfl rfl ?_
  have n1 : New w (w.alloc (.cells #[.int .i64 k] 3)) := New.alloc _ _
  have n2 : New w ((w.alloc (.cells #[.int .i64 k] 3)).alloc (.cells #[.bool sign] 4)) := n1.trans (New.alloc _ _)
  have hK1 : (w.alloc (.cells #[.int .i64 k] 3)).cell? ⟨w.heap.size, 0, none⟩ = some (.int .i64 k) := by
    rw [cell_of_row _ _ 0 _ _ _ (heap_alloc_new w _)]; rfl
  have hK : ((w.alloc (.cells #[.int .i64 k] 3)).alloc (.cells #[.bool sign] 4)).cell? ⟨w.heap.size, 0, none⟩ = some (.int .i64 k) := (New.alloc _ _).cell hK1
  have hS : ((w.alloc (.cells #[.int .i64 k] 3)).alloc (.cells #[.bool sign] 4)).cell? ⟨(w.alloc (.cells #[.int .i64 k] 3)).heap.size, 0, none⟩ = some (.bool sign) := by
    rw [cell_of_row _ _ 0 _ _ _ (heap_alloc_new _ _)]; rfl
  refine call_ (wis_ok _ true _ (h.new n2).is) ?_
  rintro e w2 ⟨rfl, hw2⟩
  change w2 = (w.alloc (.cells #[.int .i64 k] 3)).alloc (.cells #[.bool sign] 4) at hw2
  rw [← hw2] at hK hS n2
  clear hw2
  refine ⟨_, rfl, ?_⟩
  refine Exists.intro k (And.intro hK ?_)
  refine call_ (wide_ok k w2) ?_
  rintro e w' ⟨rfl, rfl⟩
  refine ⟨_, rfl, ?_⟩
  refine if_ (fun hwk => ?_) (fun hwk => ?_)
  · have hg : good k sign zs = false := by
      unfold good
      simp only [Bool.not_eq_true'] at hwk
      rw [hwk]
      rfl
    unfold allErr allBs
    rw [hg]
    exact ⟨rfl, v, h.new n2, n2.mod, stayed.refl _ _⟩
  replace hwk : wide k = true := by simpa using hwk
  refine call_ (contains_ok C q qc zs k sign _ _ w' hq (hz.new n2) (by omega) hK hS hwk) ?_
  rintro e w2 ⟨rfl, rfl⟩
  refine ⟨_, rfl, ?_⟩
  refine if_ (fun hu => ?_) (fun hu => ?_)
  · have hg : good k sign zs = false := by
      unfold good
      rw [hwk, hu]
      rfl
    unfold allErr allBs
    rw [hg]
    exact ⟨rfl, v, h.new n2, n2.mod, stayed.refl _ _⟩
  have hg : good k sign zs = true := by
    unfold good
    rw [hwk, hu]
    rfl
  unfold allErr allBs
  rw [hg, if_pos rfl, if_pos rfl]
  have hkc := wide_cases hwk
  obtain ⟨n, rfl⟩ : ∃ n : Nat, k = n := ⟨k.toNat, by omega⟩
  have hn0 : 0 < n := by omega
  have hn8 : n ≤ 8 := by omega
  rw [Int.toNat_natCast]
  have hgl : g < w.heap.size := h.lt
  have hKb : ¬ WS g v w.heap.size := by
    rintro (e | e)
    · omega
    · have := h.own.lt w.heap.size e.symm
      omega
  refine den_loop (σ := Nat) (fun i => [(0, .pointer (some ⟨g, 0, none⟩)), (5, .pointer (some ⟨w.heap.size, 0, none⟩)), (22, .slice C q qc), (23, .int .i64 q), (24, .int .i64 i)])
    (fun m i wl => i ≤ q ∧ m = q - i ∧ ∃ vi, Wr wl base g vi (bs ++ (zs.take i).flatMap (enc n)) ∧ Mod (WS g v) w2 wl ∧ stayed w2 v vi) q 0 ⟨rfl, rfl, rfl, rfl, rfl, trivial⟩ ⟨Nat.zero_le _, rfl, v, by simpa using h.new n2, Mod.refl _ _, stayed.refl _ _⟩ ?_
  rintro m i wl fr0 ⟨hi, rfl, vi, hw, hl, hst⟩
  refine if_p (fun hlt => ?_) (fun hge => ?_)
  · have hi' : i < zs.length := by omega
    have hzl : Row wl C (ivs zs) := (hz.new n2).mod hl (fun a ha => hC a ha (by intro e; rw [e] at hi'; exact absurd hi' (Nat.not_lt_zero _)))
    have hKl : wl.cell? ⟨w.heap.size, 0, none⟩ = some (.int .i64 (n : Int)) := hl.cell hK hKb
    have hKo : some w.heap.size ≠ vi.ownBlock := by
      intro e
      rcases hst _ e.symm with h1 | h1
      · exact hKb (.inr h1.symm)
      · have := n1.size
        have := n2.size
        have h3 := (Array.getElem?_eq_some_iff.1 (heap_alloc_new w (.cells #[.int .i64 (n : Int)] 3))).1
        have h4 : w.heap.size < w2.heap.size := World.block_lt_of_cell? w2 _ hK
        omega
    obtain ⟨a, rfl, hc⟩ := hzl.at_ i (by simp [ivs]; omega)
    have hzv : (ivs zs)[i]'(by simp [ivs]; omega) = .int .i64 zs[i] := by simp [ivs]
    rw [hzv] at hc
    have hlen : (bs ++ (zs.take i).flatMap (enc n)).length = bs.length + n * i := by rw [List.length_append, flat_length, List.length_take, Nat.min_eq_left (by omega)]
    have hni : n * i + n ≤ 8 * zs.length := by
      have : n * (i + 1) ≤ 8 * zs.length := Nat.mul_le_mul hn8 hi'
      rw [Nat.mul_succ] at this
      exact this
    generalize hbi : bs ++ (zs.take i).flatMap (enc n) = bi at hw hlen
    refine And.intro (by omega) (And.intro hlt (some_at rfl (Exists.intro _ (And.intro (by rw [Nat.mul_one, Int.toNat_natCast]; exact hc) ?_))))
    obtain ⟨A0, c0, rfl, _⟩ := own_slice hw.own
    refine draw_ ok (.q 0 (.q 1 (.q 2 (.q 3 (.q 4 (.q 5 (.q 6 (.e 7 (.q 8 (.q 9 (.q 10 (.e 11 .done)))))))))))) [11] (fun w' => Mod (fun b => some b = (Value.slice A0 bi.length c0).ownBlock) wl w') (by kernel_rfl) (by kernel_rfl) (by kernel_rfl) (by kernel_rfl) (by kernel_rfl) (New.drew wl).mod ?_
    refine Exists.intro A0 (Exists.intro bi.length (Exists.intro c0 (And.intro (fun w' hw' => by rw [ad]; exact hw'.cell hw.c0 (fun e => hw.off e.symm)) ?_)))
    refine Exists.intro (n : Int) (And.intro (fun w' hw' => hw'.cell hKl hKo) ?_)
    have hbl : base ≤ wl.heap.size := Nat.le_trans hbase (Nat.le_trans n2.size hl.size)
    refine eff_app rfl rfl (fun _ _ => rfl) ?_
    refine append_zeros_ ok rfl rfl rfl rfl rfl rfl rfl rfl rfl (own_new (New.drew wl) hw.own) rfl rfl rfl hn0 (by show (bi.length + n) * 1 ≤ _; omega) (by omega) hbl ?_
    intro A1 c1 w3 own3 mod3 st3
    have m3 : Mod (fun b => some b = (Value.slice A0 bi.length c0).ownBlock) wl w3 := Mod.trans (New.drew wl).mod mod3 fun _ _ h => h
    refine Exists.intro _ (And.intro (fun _ h => h) (And.intro m3 ?_))
    have hblk3 := m3.blk hw.blk (fun e => hw.off e.symm)
    have hz0 : List.replicate n (Value.int .u8 0) = bvs (List.replicate n 0) := by
      unfold bvs
      rw [List.map_replicate]
      rfl
    rw [hz0, ← bvs_append] at own3
    have hl3 : bi.length + n = (bi ++ List.replicate n (0 : UInt8)).length := by simp
    have hoff3 : (Value.slice A1 (bi.length + n) c1).ownBlock ≠ some g := by
      intro e
      rcases st3 g e with h1 | h1
      · exact hw.off h1
      · have := hw.lt
        simp at h1
        omega
    have hc3 : w3.cell? ⟨g, 0, none⟩ = some (.slice A0 bi.length c0) := by rw [cell_of_row _ _ 0 _ _ _ hblk3]; rfl
    refine And.intro ⟨_, by rw [ad]; exact hc3⟩ (And.intro (by rw [ad]; exact frozen_of_row w3 g 0 _ _ hblk3) ?_)
    rw [ad]
    obtain ⟨wr4, mod4⟩ := Wr.set (bs := bi ++ List.replicate n 0) hblk3 (by rw [← hl3]; exact own3) hoff3
    have hK4 : ((w3.setCell ⟨g, 0, none⟩ (.slice A1 (bi.length + n) c1)).drew).cell? ⟨w.heap.size, 0, none⟩ = some (.int .i64 (n : Int)) :=
      (New.drew _).cell (mod4.cell (m3.cell hKl hKo) (by intro e; exact hKb (.inl e)))
    refine draw_ ok (.q 0 (.q 1 (.q 2 (.q 3 (.q 4 (.q 5 (.q 6 (.q 7 (.q 8 (.q 9 (.q 10 (.e 11 .done)))))))))))) [11] (New (w3.setCell ⟨g, 0, none⟩ (.slice A1 (bi.length + n) c1)).drew) (by kernel_rfl) (by kernel_rfl) (by kernel_rfl) (by kernel_rfl) (by kernel_rfl) (New.refl _) ?_
    have wr5 := wr4.new (New.drew _)
    refine Exists.intro A1 (Exists.intro (bi.length + n) (Exists.intro c1 (And.intro (fun w' hw' => by rw [ad]; exact hw'.cell wr5.c0) ?_)))
    refine Exists.intro (n : Int) (And.intro (fun w' hw' => hw'.cell hK4) ?_)
    refine Exists.intro (n : Int) (And.intro (fun w' hw' => hw'.cell hK4) ?_)
    refine call_ (put_ok base g _ _ bi.length n zs[i] _ (by rw [wrap_i64 (by omega) (by omega)]; omega) _ wr5 hn8 (by simp) (by simp; omega)) ?_
    rintro e w6 ⟨rfl, wr6, mod6⟩
    rw [patch_end _ _ _ _ (by simp)] at wr6
    refine ⟨_, rfl, ?_⟩
    have hstt : stayed w2 v (.slice A1 (bi.length + n) c1) := stayed.trans hst hl.size (fun b hb => by
      rcases st3 b hb with h1 | h1
      · exact .inl h1
      · exact .inr (by simpa using h1))
    refine ⟨q - (i + 1), i + 1, by omega, ⟨rfl, rfl, rfl, rfl, ?_, trivial⟩, by omega, rfl, _, ?_, ?_, hstt⟩
    · show Value.int .i64 (IntKind.i64.wrap _) = _
      rw [wrap_i64 (by omega) (by omega)]
      rfl
    · rw [flat_take zs n i hi', ← List.append_assoc, hbi]
      exact wr6
    · have sub : ∀ {x : Value}, stayed w2 v x → ∀ b, b < w2.heap.size → some b = x.ownBlock → WS g v b := fun {x} hx b hb e => by
        rcases hx b e.symm with h1 | h1
        · exact .inr h1.symm
        · omega
      have a1 := Mod.trans hl m3 (fun b hb e => sub hst b hb e)
      have a2 := Mod.trans a1 mod4 (fun b hb e => .inl e)
      have a3 := Mod.trans (a2.new (New.drew _)) mod6 (fun b hb e => sub hstt b hb e)
      exact a3
  · have : i = q := by omega
    subst this
    rw [hq, List.take_length] at hw
    exact ⟨rfl, vi, hw, Mod.trans n2.mod hl (fun _ _ h => h), fun b hb => by
      rcases hst b hb with h1 | h1
      · exact .inl h1
      · exact .inr (Nat.le_trans n2.size h1)⟩
end Go.Proofs.Yteanhakkceancaa.Word

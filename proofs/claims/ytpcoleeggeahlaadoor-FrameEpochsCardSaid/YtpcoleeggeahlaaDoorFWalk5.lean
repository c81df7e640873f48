/- The package frame, walked: the record that bytes begin with. -/
import Derived.Test.YtpcoleeggeahlaaDoorFWalk4
namespace Go.Proofs.YtpcoleeggeahlaaDoor.Frame
open Go Go.Proofs.YtpcoleeggeahlaaDoor Go.Proofs.YtpcoleeggeahlaaDoor.Eng Go.Proofs Go.Proofs.YtpcoleeggeahlaaDoor.Sum
set_option maxRecDepth 10000

theorem bvs_take' (bs : List UInt8) (k : Nat) : bvs (bs.take k) = (bvs bs).take k := List.map_take ..
theorem First_ok (A : Option Addr) (n c : Nat) (bs : List UInt8) (w : World) (ht : tbl w) (hn : n = bs.length) (hr : Row w A (bvs bs)) (hc : n ≤ c) (hcm : c ≤ 9223372036854775807) (hm : n ≤ 140737488351232) :
    Calls Tryd.prog 10 #[.slice A n c] w fun e w' => e = .returned (.tuple #[recV (firstRec bs), .int .i64 (firstSize bs), .int .i64 (firstErr bs)]) ∧ New w w' := by
  refine enter ok Tryd.func10 rfl rfl rfl ?_
  have n0 := New.alloc w (.cells #[.int .i64 0, .string ⟨#[]⟩] 23)
  have hb := heap_alloc_new w (.cells #[.int .i64 0, .string ⟨#[]⟩] 23)
  have no : ∀ (x : Int) (w2 : World), firstErr bs = x → x ≠ 0 → New w w2 → Ending.returned (.tuple #[recV ⟨0, []⟩, .int .i64 0, .int .i64 x]) = .returned (.tuple #[recV (firstRec bs), .int .i64 (firstSize bs), .int .i64 (firstErr bs)]) ∧ New w w2 := by
    intro x w2 hx hne n2
    have h1 : firstRec bs = ⟨0, []⟩ := by unfold firstRec; rw [hx, if_neg hne]
    have h2 : firstSize bs = 0 := by unfold firstSize; rw [hx, if_neg hne]
    rw [h1, h2, hx]
    exact ⟨rfl, n2⟩
  refine if_p (fun h8 => ?_) (fun h8 => ?_)
  · replace h8 : (n : Int) < 8 := h8
    have he : firstErr bs = 7 := by unfold firstErr; rw [if_pos (by omega)]
    refine And.intro rfl ?_
    refine storeN_all (vs := [.int .i64 0, .string ⟨#[]⟩]) (arr := #[.int .i64 0, .string ⟨#[]⟩]) (t := 23) hb rfl (by intro v hv; simp at hv; rcases hv with rfl | rfl <;> rfl) ?_
    intro w9 hb9 m9 _
    refine loadN_row (vs := [.int .i64 0, .string ⟨#[]⟩]) (fun k u hu => ?_) rfl ?_
    · rw [ad0, cell_of_row _ _ k _ _ _ hb9]
      simpa using hu
    · exact no 7 w9 he (by decide) (Mod.trans n0 m9 fun b hb e => by omega)
  replace h8 : ¬ (n : Int) < 8 := h8
  have hNl := num_lt bs 0
  have hN4 := num_lt bs 4
  refine call_ (number_ok A n c bs 0 (w.alloc (.cells #[.int .i64 0, .string ⟨#[]⟩] 23)) hn (hr.new n0) hc hcm (by omega)) ?_
  rintro e w1 ⟨rfl, hw1⟩
  refine ⟨_, rfl, ?_⟩
  rw [← hw1] at hb n0
  clear hw1
  have e12 : IntKind.i64.wrap (IntKind.i64.wrap (8 + (num bs 0 : Int)) + 4) = ((num bs 0 + 12 : Nat) : Int) := by
    rw [wrap_i64 (n := 8 + (num bs 0 : Int)) (by omega) (by omega), wrap_i64 (by omega) (by omega)]
    omega
  have e8 : IntKind.i64.wrap (8 + (num bs 0 : Int)) = ((8 + num bs 0 : Nat) : Int) := by rw [wrap_i64 (by omega) (by omega)]; omega
  have hfe : firstErr bs = if 4096 < num bs 0 then 30 else if bs.length < num bs 0 + 12 then 7 else if right (bs.take (num bs 0 + 12)) = true then 0 else 30 := by unfold firstErr; rw [if_neg (by omega)]
  refine if_p (fun h4 => ?_) (fun h4 => ?_)
  · replace h4 : (4096 : Int) < (num bs 0 : Int) := h4
    have he : firstErr bs = 30 := by rw [hfe, if_pos (by omega)]
    refine And.intro rfl ?_
    refine storeN_all (vs := [.int .i64 0, .string ⟨#[]⟩]) (arr := #[.int .i64 0, .string ⟨#[]⟩]) (t := 23) hb rfl (by intro v hv; simp at hv; rcases hv with rfl | rfl <;> rfl) ?_
    intro w9 hb9 m9 _
    refine loadN_row (vs := [.int .i64 0, .string ⟨#[]⟩]) (fun k u hu => ?_) rfl ?_
    · rw [ad0, cell_of_row _ _ k _ _ _ hb9]
      simpa using hu
    · exact no 30 w9 he (by decide) (Mod.trans n0 m9 fun b hb e => by omega)
  replace h4 : ¬ (4096 : Int) < (num bs 0 : Int) := h4
  rw [if_neg (by omega)] at hfe
  refine if_p (fun h5 => ?_) (fun h5 => ?_)
  · replace h5 : (n : Int) < IntKind.i64.wrap (IntKind.i64.wrap (8 + (num bs 0 : Int)) + 4) := h5
    rw [e12] at h5
    have he : firstErr bs = 7 := by rw [hfe, if_pos (by omega)]
    refine And.intro rfl ?_
    refine storeN_all (vs := [.int .i64 0, .string ⟨#[]⟩]) (arr := #[.int .i64 0, .string ⟨#[]⟩]) (t := 23) hb rfl (by intro v hv; simp at hv; rcases hv with rfl | rfl <;> rfl) ?_
    intro w9 hb9 m9 _
    refine loadN_row (vs := [.int .i64 0, .string ⟨#[]⟩]) (fun k u hu => ?_) rfl ?_
    · rw [ad0, cell_of_row _ _ k _ _ _ hb9]
      simpa using hu
    · exact no 7 w9 he (by decide) (Mod.trans n0 m9 fun b hb e => by omega)
  replace h5 : ¬ (n : Int) < IntKind.i64.wrap (IntKind.i64.wrap (8 + (num bs 0 : Int)) + 4) := h5
  rw [e12] at h5
  rw [if_neg (by omega)] at hfe
  refine And.intro (by rw [e12]; omega) (And.intro (by rw [e12]; omega) ?_)
  have hrow0 : Row w1 A (bvs (bs.take (num bs 0 + 12))) := by rw [bvs_take']; exact (hr.new n0).take _
  have hR := Right_ok A (num bs 0 + 12) c (bs.take (num bs 0 + 12)) w1 (ht.new n0) (by rw [List.length_take]; omega) hrow0 (by omega) (by omega)
  have hR' : Calls Tryd.prog 22 #[.slice A (IntKind.i64.wrap (IntKind.i64.wrap (8 + (num bs 0 : Int)) + 4)).toNat c] w1 fun e w' => e = .returned (.bool (right (bs.take (num bs 0 + 12)))) ∧ New w1 w' := by
    rw [e12, Int.toNat_natCast]
    exact hR
  refine call_ hR' ?_
  rintro e w2 ⟨rfl, n2⟩
  refine ⟨_, rfl, ?_⟩
  have hb2 := n2.blk hb
  have k2 := n0.trans n2
  refine if_ (fun h6 => ?_) (fun h6 => ?_)
  · replace h6 : right (bs.take (num bs 0 + 12)) = false := by simpa using h6
    have he : firstErr bs = 30 := by rw [hfe, h6]; rfl
    refine And.intro rfl ?_
    refine storeN_all (vs := [.int .i64 0, .string ⟨#[]⟩]) (arr := #[.int .i64 0, .string ⟨#[]⟩]) (t := 23) hb2 rfl (by intro v hv; simp at hv; rcases hv with rfl | rfl <;> rfl) ?_
    intro w9 hb9 m9 _
    refine loadN_row (vs := [.int .i64 0, .string ⟨#[]⟩]) (fun k u hu => ?_) rfl ?_
    · rw [ad0, cell_of_row _ _ k _ _ _ hb9]
      simpa using hu
    · exact no 30 w9 he (by decide) (Mod.trans k2 m9 fun b hb e => by omega)
  replace h6 : right (bs.take (num bs 0 + 12)) = true := by simpa using h6
  have he : firstErr bs = 0 := by rw [hfe, if_pos h6]
  have hrec : firstRec bs = ⟨num bs 4, (bs.drop 8).take (num bs 0)⟩ := by unfold firstRec; rw [if_pos he]
  have hsize : firstSize bs = num bs 0 + 12 := by unfold firstSize; rw [if_pos he]
  have hr2 := hr.new k2
  have hrow8 := row_cut hr2 (show bs.length ≤ c by omega) 8 (num bs 0)
  have hl8 : ((bs.drop 8).take (num bs 0)).length = num bs 0 := by rw [List.length_take, List.length_drop]; omega
  refine draw_ ok (.q 0 (.q 2 (.q 3 (.q 4 (.q 5 (.q 6 (.q 8 (.e 1 (.q 7 (.e 9 (.q 10 (.q 11 .done)))))))))))) [11] (Mod (fun b => b = w.heap.size) w2) (by kernel_rfl) (by kernel_rfl) (by kernel_rfl) (by kernel_rfl) (by kernel_rfl) (New.drew _).mod ?_
  have hAlt : ∀ {w'' : World}, Mod (fun b => b = w.heap.size) w2 w'' → Row w'' (slA A c 8 1) (bvs ((bs.drop 8).take (num bs 0))) := fun hw => hrow8.mod hw fun a ha e => by
    have hne : bvs bs ≠ [] := by
      intro h
      have h9 : (bvs bs).length = 0 := by rw [h]; rfl
      rw [bvs_length] at h9
      omega
    have hA : ∃ a', A = some a' ∧ a'.block = a.block := by
      unfold slA at ha
      split at ha
      · exact ⟨a, ha, rfl⟩
      · cases A with
        | none => cases ha
        | some a' => cases ha; exact ⟨a', rfl, (add_block _ _).symm⟩
    obtain ⟨a', hA, hbk⟩ := hA
    have := hr.lt hne hA
    omega
  refine And.intro (by decide) (And.intro (by rw [e8]; omega) (And.intro (by rw [e8]; omega) ?_))
  refine Exists.intro ((bs.drop 8).take (num bs 0)) ?_
  refine And.intro (by rw [e8, hl8, Int.toNat_natCast]; show num bs 0 = 8 + num bs 0 - 8; omega) (And.intro (fun w'' hw => hAlt hw) ?_)
  refine call_ (number_ok A n c bs 4 w2.drew hn (hr2.new (New.drew _)) hc hcm (by omega)) ?_
  rintro e w3 ⟨rfl, hw3⟩
  refine ⟨_, rfl, ?_⟩
  have k3 : New w2 w3 := by rw [hw3]; exact New.drew w2
  clear hw3
  refine Exists.intro (Mod (fun b => b = w.heap.size) w2) (And.intro (fun _ h => h) (And.intro k3.mod ?_))
  refine And.intro rfl ?_
  refine storeN_all (vs := recC ⟨num bs 4, (bs.drop 8).take (num bs 0)⟩) (arr := #[.int .i64 0, .string ⟨#[]⟩]) (t := 23) (k3.blk hb2) rfl (by intro v hv; simp [recC] at hv; rcases hv with rfl | rfl <;> rfl) ?_
  intro w9 hb9 m9 _
  have k9 : Mod (fun b => b = w.heap.size) w2 w9 := Mod.trans k3.mod m9 fun _ _ e => e
  refine Exists.intro (Mod (fun b => b = w.heap.size) w2) (And.intro (fun _ h => h) (And.intro k9 ?_))
  refine loadN_row (vs := recC ⟨num bs 4, (bs.drop 8).take (num bs 0)⟩) (fun k u hu => ?_) rfl ?_
  · rw [ad0, cell_of_row _ _ k _ _ _ hb9]
    simpa using hu
  rw [hrec, hsize, he]
  refine ⟨?_, Mod.trans k2 k9 fun b hb e => by omega⟩
  show Ending.returned (.tuple #[.agg (recC ⟨num bs 4, (bs.drop 8).take (num bs 0)⟩).toArray, .int .i64 (IntKind.i64.wrap (IntKind.i64.wrap (8 + (num bs 0 : Int)) + 4)), .int .i64 0]) = _
  rw [e12]
  rfl
end Go.Proofs.YtpcoleeggeahlaaDoor.Frame

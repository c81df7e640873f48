/- What must work of the package frame; few records; walked. -/
import Derived.Test.YtpcoleeggeahlaaDoorFScan
import Derived.Test.YtpcoleeggeahlaaDoorFMath2
import Derived.Test.YtpcoleeggeahlaaDoorRow2
import Derived.Test.YtpcoleeggeahlaaDoorMem4
namespace Go.Proofs.YtpcoleeggeahlaaDoor.Frame
open Go Go.Proofs.YtpcoleeggeahlaaDoor Go.Proofs.YtpcoleeggeahlaaDoor.Eng Go.Proofs Go.Proofs.YtpcoleeggeahlaaDoor.Sum
set_option maxRecDepth 10000

theorem cells_flat (l : List (Nat × Rec)) : cellsOf l = ((l.map (·.2)).map recC).flatten := by
  unfold cellsOf
  rw [List.map_map, List.flatMap_def]
  rfl
theorem recC_len (l : List Rec) : ∀ cs ∈ l.map recC, cs.length = 2 := by
  intro cs hcs
  obtain ⟨r, _, rfl⟩ := List.mem_map.1 hcs
  rfl
def r0 : Rec := ⟨1, [97, 98]⟩
theorem r0_ok : okR r0 := ⟨by decide, by decide, by decide⟩
theorem r0_len : (enc r0).length = 14 := by rw [enc_len]; rfl
theorem r0_take : (enc r0).take 10 = [0, 0, 0, 2, 0, 0, 0, 1, 97, 98] := rfl
theorem r0_scan : scan (enc r0 ++ [0]) = [(14, r0)] := by
  have h := scan_encs [r0] [0] (fun r hr => by rw [List.mem_singleton.1 hr]; exact r0_ok) ⟨by decide, trivial⟩ (.inl (by decide))
  have e : [r0].flatMap enc = enc r0 := by simp
  rw [e] at h
  exact h
theorem works_ok (w : World) (ht : tbl w) : Calls Tryd.prog 7 #[] w fun e w' => e = .returned (.bool true) ∧ New w w' := by
  refine enter ok Tryd.func7 rfl rfl rfl ?_
  have hW := Write_ok r0 w ht
  have he : writeErr r0 = 0 := rfl
  have hb : writeBs r0 = enc r0 := by unfold writeBs; rw [if_pos he]
  rw [he, hb] at hW
  have hlen := r0_len
  have htk := r0_take
  have hsc := r0_scan
  generalize enc r0 = E at hW hlen htk hsc
  refine call_ hW ?_
  rintro e w1 ⟨v1, rfl, own1, n1⟩
  obtain ⟨A1, c1, rfl, hc1, hm1, row1, _⟩ := own_slice own1
  refine ⟨_, rfl, ?_⟩
  have a2 := New.alloc w1 (.cells #[bv 0] 5)
  have hrow2 : Row (w1.alloc (.cells #[bv 0] 5)) (some ⟨w1.heap.size, 0, none⟩) (bvs [0]) := row_alloc w1 [bv 0] _ _
  have hs1 := n1.size
  refine append3_ ok rfl rfl rfl rfl (own_new a2 own1) rfl rfl hrow2 rfl (bvs_one _) (by decide) rfl (by rw [hlen]; decide) (by omega) (Nat.le_trans hs1 a2.size) ?_
  intro A3 c3 w3 own3 mod3 st3 old3
  have row13 : Row w3 A1 (bvs E) := old3 _ _ _ rfl
  rw [← bvs_append] at own3
  obtain ⟨_, _, he3, hc3, hm3, row3, _⟩ := own_slice own3
  cases he3
  have n3 : New w w3 := Mod.trans (n1.trans a2) mod3 (fun b hb e => by have := (own1.lt b e.symm).1; omega)
  have hS := Scan_ok A3 (E.length + 1) c3 (E ++ [0]) w3 (ht.new n3) (by rw [List.length_append]; rfl) row3 hc3 hm3 (by omega)
  rw [hsc] at hS
  refine call_ hS ?_
  rintro e w4 ⟨v4, rfl, own4, n4⟩
  obtain ⟨A4, c4, rfl, hc4, hm4, row4, _⟩ := own_slice own4
  refine ⟨_, rfl, ?_⟩
  have n4' := n3.trans n4
  refine if_yes (decide_eq_true (by rw [hlen]; rfl)) ?_
  refine And.intro (by decide) (And.intro (by show (10 : Int) ≤ c1; omega) ?_)
  refine Exists.intro (E.take 10) ?_
  refine And.intro (by rw [List.length_take, hlen]; rfl) (And.intro (by rw [bvs_take']; exact (row13.new n4).take 10) ?_)
  rw [htk]
  obtain ⟨a4, ha4, hcell4⟩ := row4 0 (.int .i64 1) rfl
  obtain ⟨_, ha4', hcell5⟩ := row4 1 (.string ⟨#[97, 98]⟩) rfl
  subst ha4
  cases ha4'
  refine And.intro (by decide) (And.intro (by decide) ?_)
  refine loadN_row (vs := recC r0) (fun k u hu => ?_) rfl ?_
  · match k with
    | 0 => cases hu; exact hcell4
    | 1 => cases hu; exact hcell5
  refine raw_value (agg_cmp ok rfl rfl rfl (by kernel_rfl) (by kernel_rfl) rfl rfl rfl true (.inl ⟨rfl, by kernel_rfl⟩) w4) ?_
  exact ⟨rfl, n4'⟩
end Go.Proofs.YtpcoleeggeahlaaDoor.Frame

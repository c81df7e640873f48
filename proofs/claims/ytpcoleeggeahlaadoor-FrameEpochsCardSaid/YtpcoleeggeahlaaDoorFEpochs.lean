/- The statement FrameEpochs, walked. -/
import Derived.Test.YtpcoleeggeahlaaDoorFBack
import Derived.Test.YtpcoleeggeahlaaDoorFWrites
namespace Go.Proofs.YtpcoleeggeahlaaDoor.Frame
open Go Go.Proofs.YtpcoleeggeahlaaDoor Go.Proofs.YtpcoleeggeahlaaDoor.Eng Go.Proofs Go.Proofs.YtpcoleeggeahlaaDoor.Sum
set_option maxRecDepth 10000

theorem lastE_at (l : List Rec) (k : Nat) (h : l.length = k + 1) : lastE 0 l = (l[k]'(by omega)).e := by
  have e : l = l.take k ++ [l[k]'(by omega)] := by
    rw [← List.take_succ_eq_append_getElem (by omega), List.take_of_length_le (by omega)]
  have h2 := lastE_snoc (l.take k) 0 (l[k]'(by omega))
  rw [← e] at h2
  exact h2
theorem snoc_cells (l : List Rec) (r : Rec) : [] ++ (l.map recC).flatten ++ recC r = ((l ++ [r]).map recC).flatten := by simp
theorem FrameEpochs_ok (A : Option Addr) (n c : Nat) (l : List Rec) (r : Rec) (w : World) (ht : tbl w) (hn : n = l.length) (hc : n ≤ c) (hcm : c ≤ 9223372036854775807) (hr : Rows2 w A 2 (l.map recC)) (ho : n * 24 ≤ 140737488351232 ∧ ∀ x ∈ l, RecOk x) :
    Calls Tryd.prog 6 #[.slice A n c, recV r] w fun e w' => e = .returned (.bool true) ∧ New w w' := by
  refine enter ok Tryd.func6 rfl rfl rfl ?_
  have n0 := New.alloc w (.cells #[.int .i64 r.e, .string ⟨r.d.toArray⟩] 23)
  have hb := heap_alloc_new w (.cells #[.int .i64 r.e, .string ⟨r.d.toArray⟩] 23)
  refine call_ (works_ok (w.alloc (.cells #[.int .i64 r.e, .string ⟨r.d.toArray⟩] 23)) (ht.new n0)) ?_
  rintro e w1 ⟨rfl, n1⟩
  refine ⟨_, rfl, ?_⟩
  have k1 := n0.trans n1
  have cell : ∀ {w' : World}, New w1 w' → ∀ j u, (recC r)[j]? = some u → w'.cell? ((⟨w.heap.size, 0, none⟩ : Addr).add j) = some u := fun m j u hu => by
    rw [ad0, cell_of_row _ _ j _ _ _ ((n1.trans m).blk hb)]
    simpa [recC] using hu
  refine draw_ (w := w1) ok (.q 0 (.e 1 (.q 2 (.q 3 (.q 4 (.q 5 (.q 6 (.q 7 (.q 8 (.q 9 (.q 10 (.q 11 (.q 12 (.q 13 (.q 14 (.q 15 (.q 16 (.q 17 (.q 18 (.q 19 (.q 20 (.q 21 (.q 22 (.q 23 (.q 24 (.q 25 (.q 26 (.q 27 (.q 28 (.q 29 (.q 30 .done))))))))))))))))))))))))))))))) [30] (New w1) (by kernel_rfl) (by kernel_rfl) (by kernel_rfl) (by kernel_rfl) (by kernel_rfl) (New.drew _) ?_
  refine call_ (small_ok A n c l w1.drew hn (hr.new (k1.trans (New.drew _))) ho.1) ?_
  rintro e w2 ⟨b2, rfl, hsmall, n2⟩
  refine ⟨_, rfl, ?_⟩
  have m2 : New w1 w2 := (New.drew w1).trans n2
  have k2 := k1.trans m2
  refine Exists.intro (New w1) (And.intro (fun _ h => h) (And.intro m2 ?_))
  cases b2 with
  | false => exact ⟨rfl, k2⟩
  | true =>
  obtain ⟨hok, hrise, htot⟩ := hsmall rfl
  have hlen : l.length ≤ 8000 := Nat.le_trans (tot_ge l) htot
  refine if_p (fun _ => ⟨rfl, k2⟩) (fun hne => ?_)
  replace hne : ¬ (n : Int) = 0 := hne
  refine Exists.intro r.e ?_
  refine And.intro (fun w'' hw => cell hw 0 _ rfl) ?_
  refine if_p (fun _ => ⟨rfl, k2⟩) (fun h1 => ?_)
  replace h1 : ¬ r.e < 0 := h1
  refine Exists.intro r.e ?_
  refine And.intro (fun w'' hw => cell hw 0 _ rfl) ?_
  obtain ⟨k, hk⟩ : ∃ k, l.length = k + 1 := ⟨l.length - 1, by omega⟩
  have e1 : IntKind.i64.wrap ((n : Int) - 1) = (k : Int) := by rw [wrap_i64 (by omega) (by omega)]; omega
  obtain ⟨a, rfl, hcells⟩ := hr.at_ k (by simp; omega)
  refine And.intro (by rw [e1]; omega) (And.intro (by rw [e1]; omega) ?_)
  have hlk := lastE_at l k hk
  refine Exists.intro (lastE 0 l) ?_
  refine And.intro (fun w'' hw => by rw [e1, Int.toNat_natCast, hlk]; exact hw.cell (k1.cell (hcells 0 _ (by simp [recC])))) ?_
  refine if_p (fun _ => ⟨rfl, k2⟩) (fun h2 => ?_)
  replace h2 : ¬ lastE 0 l ≤ r.e := h2
  refine Exists.intro (⟨r.d.toArray⟩ : ByteArray) ?_
  refine And.intro (fun w'' hw => cell hw 1 _ rfl) ?_
  refine if_p (fun _ => ⟨rfl, k2⟩) (fun h3 => ?_)
  replace h3 : ¬ (4096 : Int) < (ByteArray.mk r.d.toArray).size := h3
  rw [size_str] at h3
  have hlok : okR l[k] := hok _ (List.getElem_mem (by omega))
  have hle := hlok.e1
  rw [← hlk] at hle
  have hokr : okR r := ⟨by omega, by omega, by omega⟩
  have hall : ∀ x ∈ l ++ [r], okR x := fun x hx => by
    rcases List.mem_append.1 hx with hx | hx
    · exact hok x hx
    · rw [List.mem_singleton.1 hx]; exact hokr
  have hae : allErr (l ++ [r]) = 0 := allErr_ok _ fun x hx => (hall x hx).err
  have hab : allBs (l ++ [r]) = l.flatMap enc ++ enc r := by unfold allBs; rw [if_pos hae, List.flatMap_append]; simp
  have hel := enc_len r
  have hbl : (l.flatMap enc).length = tot l := rfl
  have hE : (l.flatMap enc ++ enc r).length = tot l + (r.d.length + 12) := by rw [List.length_append, hbl, hel]
  have hsc : scan (l.flatMap enc ++ enc r) = ends 0 l := scan_encs l (enc r) hok hrise (.inr (by
    have := (first_enc r hokr.e0 hokr.e1 hokr.d []).2.1
    rw [List.append_nil] at this
    rw [this]
    omega))
  have hcall : ∀ (A' : Option Addr) (c' : Nat) (w' : World), w'.ownsRow w2.heap.size 23 2 (.slice A' (0 + n + 1) c') (0 + n + 1) ([] ++ (l.map recC).flatten ++ recC r) → New w2 w' →
      Calls Tryd.prog 12 #[.slice A' (0 + n + 1) c'] w' fun e w'' => ∃ A3 c3, e = .returned (.tuple #[.slice A3 (l.flatMap enc ++ enc r).length c3, .int .i64 0]) ∧ w''.ownsRow w2.heap.size 5 1 (.slice A3 (l.flatMap enc ++ enc r).length c3) (l.flatMap enc ++ enc r).length (bvs (l.flatMap enc ++ enc r)) ∧ New w2 w'' := by
    intro A' c' w' own' k'
    obtain ⟨_, _, he, _, _, row, _⟩ := own_slice own'
    cases he
    rw [snoc_cells] at row
    refine (All_ok A' (0 + n + 1) c' (l ++ [r]) w' (ht.new (k2.trans k')) (by simp; omega) (rows2_of_row (recC_len _) (by decide) row) (by omega)).mono ?_
    rintro e w'' ⟨v, rfl, own, nn⟩
    rw [hae, hab] at *
    obtain ⟨A3, c3, rfl, _⟩ := own_slice own
    exact ⟨A3, c3, rfl, own_base own k'.size, k'.trans nn⟩
  refine skip_ (thenF_ ?_)
  refine seq_cut (σ := Option Addr × Nat) (fun t => [(0, .slice (some a) n c), (3, .pointer (some ⟨w.heap.size, 0, none⟩)), (5, .slice t.1 (l.flatMap enc ++ enc r).length t.2), (6, .int .i64 0)])
    (fun t w' => w'.ownsRow w2.heap.size 5 1 (.slice t.1 (l.flatMap enc ++ enc r).length t.2) (l.flatMap enc ++ enc r).length (bvs (l.flatMap enc ++ enc r)) ∧ New w2 w') ?_ ?_
  rotate_left
  · intro K hK
    refine draw_ (w := w2) ok (.q 1 (.q 3 (.br (.e 0 (.br (.e 2 (.e 4 (.e 5 (.e 6 (.q 7 (.q 8 (.q 9 (.q 10 (.q 11 .done))))))))) (.e 4 (.e 2 (.e 5 (.e 6 (.q 7 (.q 8 (.q 9 (.q 10 (.q 11 .done))))))))))) (.e 4 (.e 0 (.e 2 (.e 5 (.e 6 (.q 7 (.q 8 (.q 9 (.q 10 (.q 11 .done))))))))))))) [11] (New w2) (by kernel_rfl) (by kernel_rfl) (by kernel_rfl) (by kernel_rfl) (by kernel_rfl) (New.drew _) ?_
    refine loadNC_row (vs := recC r) (fun j u hu w'' hw => cell (m2.trans hw) j u hu) rfl ?_
    have kd := New.drew w2
    have hrow : ∀ {w' : World}, New w2 w' → Row w' (some a) (l.map recC).flatten := fun m => row_of_rows2 (hr.new (k2.trans m))
    have hfl : (l.map recC).flatten.length = n * 2 := by rw [recs_flen, hn]
    refine And.intro ?_ ?_
    · have own5 := own_lit w2.drew [] 23 2 0 w2.heap.size kd.size rfl (by omega)
      have k5 := kd.trans (New.alloc w2.drew (.cells #[] 23))
      refine Exists.intro (New w2) (And.intro (fun _ h => h) (And.intro k5 ?_))
      refine And.intro ?_ ?_
      · refine eff_app rfl rfl (fun _ _ => rfl) ?_
        refine append2_ ok rfl rfl rfl rfl own5 rfl rfl (hrow k5) hfl (recs_one l) (by decide) rfl (by show (0 + n) * 24 ≤ _; omega) (by omega) k5.size ?_
        intro A13 c13 w13 own13 mod13 st13
        have k13 : New w2 w13 := Mod.trans k5 mod13 fun b hb e => by have := (own5.lt b e.symm).1; omega
        refine Exists.intro (New w2) (And.intro (fun _ h => h) (And.intro k13 ?_))
        refine eff_build (xs := recC r) rfl rfl rfl rfl rfl rfl rfl rfl rfl ?_
        have row16 : Row (w13.alloc (.cells (recC r).toArray 23)) (some ⟨w13.heap.size, 0, none⟩) (recC r) := row_alloc w13 (recC r) _ _
        have k16 := k13.trans (New.alloc w13 (.cells (recC r).toArray 23))
        have own16 := own_new (New.alloc w13 (.cells (recC r).toArray 23)) own13
        refine Exists.intro (New w2) (And.intro (fun _ h => h) (And.intro k16 ?_))
        refine eff_app rfl rfl (fun _ _ => rfl) ?_
        refine append2_ ok rfl rfl rfl rfl own16 rfl rfl row16 rfl (recC_one _) (by decide) rfl (by show (0 + n + 1) * 24 ≤ _; omega) (by omega) k16.size ?_
        intro A17 c17 w17 own17 mod17 st17
        have k17 : New w2 w17 := Mod.trans k16 mod17 fun b hb e => by have := (own16.lt b e.symm).1; omega
        refine Exists.intro (New w2) (And.intro (fun _ h => h) (And.intro k17 ?_))
        refine call_ (hcall A17 c17 w17 own17 k17) ?_
        rintro e w18 ⟨A3, c3, rfl, own18, k18⟩
        refine ⟨_, rfl, ?_⟩
        refine Exists.intro (New w2) (And.intro (fun _ h => h) (And.intro k18 ?_))
        exact hK (A3, c3) _ _ ⟨rfl, rfl, rfl, rfl, trivial⟩ ⟨own18, k18⟩
      · refine eff_build (xs := recC r) rfl rfl rfl rfl rfl rfl rfl rfl rfl ?_
        have row16 : Row ((w2.drew.alloc (.cells #[] 23)).alloc (.cells (recC r).toArray 23)) (some ⟨(w2.drew.alloc (.cells #[] 23)).heap.size, 0, none⟩) (recC r) := row_alloc (w2.drew.alloc (.cells #[] 23)) (recC r) _ _
        have k16 := k5.trans (New.alloc (w2.drew.alloc (.cells #[] 23)) (.cells (recC r).toArray 23))
        have own16 := own_new (New.alloc (w2.drew.alloc (.cells #[] 23)) (.cells (recC r).toArray 23)) own5
        refine Exists.intro (New w2) (And.intro (fun _ h => h) (And.intro k16 ?_))
        refine eff_app rfl rfl (fun _ _ => rfl) ?_
        refine append2_ ok rfl rfl rfl rfl own16 rfl rfl (hrow k16) hfl (recs_one l) (by decide) rfl (by show (0 + n) * 24 ≤ _; omega) (by omega) k16.size ?_
        intro A13 c13 w13 own13 mod13 st13
        have k13 : New w2 w13 := Mod.trans k16 mod13 fun b hb e => by have := (own16.lt b e.symm).1; omega
        have row16b : Row w13 (some ⟨(w2.drew.alloc (.cells #[] 23)).heap.size, 0, none⟩) (recC r) := row16.mod mod13 (fun a ha e => by cases ha; simp [Value.ownBlock] at e)
        refine Exists.intro (New w2) (And.intro (fun _ h => h) (And.intro k13 ?_))
        refine eff_app rfl rfl (fun _ _ => rfl) ?_
        refine append2_ ok rfl rfl rfl rfl own13 rfl rfl row16b rfl (recC_one _) (by decide) rfl (by show (0 + n + 1) * 24 ≤ _; omega) (by omega) k13.size ?_
        intro A17 c17 w17 own17 mod17 st17
        have k17 : New w2 w17 := Mod.trans k13 mod17 fun b hb e => by have := (own13.lt b e.symm).1; omega
        refine Exists.intro (New w2) (And.intro (fun _ h => h) (And.intro k17 ?_))
        refine call_ (hcall A17 c17 w17 own17 k17) ?_
        rintro e w18 ⟨A3, c3, rfl, own18, k18⟩
        refine ⟨_, rfl, ?_⟩
        refine Exists.intro (New w2) (And.intro (fun _ h => h) (And.intro k18 ?_))
        exact hK (A3, c3) _ _ ⟨rfl, rfl, rfl, rfl, trivial⟩ ⟨own18, k18⟩
    · refine eff_build (xs := recC r) rfl rfl rfl rfl rfl rfl rfl rfl rfl ?_
      have row16 : Row (w2.drew.alloc (.cells (recC r).toArray 23)) (some ⟨w2.drew.heap.size, 0, none⟩) (recC r) := row_alloc w2.drew (recC r) _ _
      have k16 := kd.trans (New.alloc w2.drew (.cells (recC r).toArray 23))
      refine Exists.intro (New w2) (And.intro (fun _ h => h) (And.intro k16 ?_))
      have own5 := own_lit (w2.drew.alloc (.cells (recC r).toArray 23)) [] 23 2 0 w2.heap.size k16.size rfl (by omega)
      have k5 := k16.trans (New.alloc (w2.drew.alloc (.cells (recC r).toArray 23)) (.cells #[] 23))
      have row16a := row16.new (New.alloc (w2.drew.alloc (.cells (recC r).toArray 23)) (.cells #[] 23))
      refine Exists.intro (New w2) (And.intro (fun _ h => h) (And.intro k5 ?_))
      refine eff_app rfl rfl (fun _ _ => rfl) ?_
      refine append2_ ok rfl rfl rfl rfl own5 rfl rfl (hrow k5) hfl (recs_one l) (by decide) rfl (by show (0 + n) * 24 ≤ _; omega) (by omega) k5.size ?_
      intro A13 c13 w13 own13 mod13 st13
      have k13 : New w2 w13 := Mod.trans k5 mod13 fun b hb e => by have := (own5.lt b e.symm).1; omega
      have row16b : Row w13 (some ⟨w2.drew.heap.size, 0, none⟩) (recC r) := row16a.mod mod13 (fun a ha e => by cases ha; simp [Value.ownBlock] at e)
      refine Exists.intro (New w2) (And.intro (fun _ h => h) (And.intro k13 ?_))
      refine eff_app rfl rfl (fun _ _ => rfl) ?_
      refine append2_ ok rfl rfl rfl rfl own13 rfl rfl row16b rfl (recC_one _) (by decide) rfl (by show (0 + n + 1) * 24 ≤ _; omega) (by omega) k13.size ?_
      intro A17 c17 w17 own17 mod17 st17
      have k17 : New w2 w17 := Mod.trans k13 mod17 fun b hb e => by have := (own13.lt b e.symm).1; omega
      refine Exists.intro (New w2) (And.intro (fun _ h => h) (And.intro k17 ?_))
      refine call_ (hcall A17 c17 w17 own17 k17) ?_
      rintro e w18 ⟨A3, c3, rfl, own18, k18⟩
      refine ⟨_, rfl, ?_⟩
      refine Exists.intro (New w2) (And.intro (fun _ h => h) (And.intro k18 ?_))
      exact hK (A3, c3) _ _ ⟨rfl, rfl, rfl, rfl, trivial⟩ ⟨own18, k18⟩
  rintro ⟨A3, c3⟩ w18 fr0 ⟨own18, k18⟩
  dsimp only at own18
  obtain ⟨_, _, he, hc3, hm3, row3, _⟩ := own_slice own18
  cases he
  have k18' := k2.trans k18
  have hS := Scan_ok A3 (l.flatMap enc ++ enc r).length c3 (l.flatMap enc ++ enc r) w18 (ht.new k18') rfl row3 hc3 hm3 (by omega)
  rw [hsc, endOf_ends, ends_len] at hS
  refine call_ hS ?_
  rintro e w19 ⟨v19, rfl, own19, n19⟩
  obtain ⟨A9, c9, rfl, _⟩ := own_slice own19
  refine ⟨_, rfl, ?_⟩
  have k19 := k18'.trans n19
  refine call_ (SameRecords_ok A9 (some a) l.length c9 n c l w19 rfl hn (rows_own own19) (hr.new k19) (by omega)) ?_
  rintro e w20 ⟨rfl, n20⟩
  refine ⟨_, rfl, ?_⟩
  have k20 := k19.trans n20
  refine loadN_row (vs := recC r) (cell ((m2.trans k18).trans (n19.trans n20))) rfl ?_
  refine call_ (Size_ok r w20 (ht.new k20)) ?_
  have hsz : (writeBs r).length = r.d.length + 12 := by unfold writeBs; rw [if_pos hokr.err, enc_len]
  rw [hsz]
  rintro e w21 ⟨rfl, n21⟩
  refine ⟨_, rfl, ?_⟩
  refine ⟨?_, k20.trans n21⟩
  show Ending.returned (.bool (decide ((tot l : Int) = IntKind.i64.wrap (((l.flatMap enc ++ enc r).length : Int) - ((r.d.length + 12 : Nat) : Int))))) = _
  rw [hE, wrap_i64 (by omega) (by omega), decide_eq_true (by omega)]
end Go.Proofs.YtpcoleeggeahlaaDoor.Frame

/- The package frame and its reference, walked: sizes; many records written; records compared. -/
import Derived.Test.YtpcoleeggeahlaaDoorFWalk3
import Derived.Test.YtpcoleeggeahlaaDoorEq
namespace Go.Proofs.YtpcoleeggeahlaaDoor.Frame
open Go Go.Proofs.YtpcoleeggeahlaaDoor Go.Proofs.YtpcoleeggeahlaaDoor.Eng Go.Proofs Go.Proofs.YtpcoleeggeahlaaDoor.Sum
set_option maxRecDepth 10000

theorem Size_ok (r : Rec) (w : World) (ht : tbl w) :
    Calls Tryd.prog 16 #[recV r] w fun e w' => e = .returned (.int .i64 (writeBs r).length) ∧ New w w' := by
  refine enter ok Tryd.func16 rfl rfl rfl ?_
  have n0 := New.alloc w (.cells #[.int .i64 r.e, .string ⟨r.d.toArray⟩] 23)
  have hb := heap_alloc_new w (.cells #[.int .i64 r.e, .string ⟨r.d.toArray⟩] 23)
  refine loadN_row (vs := recC r) (fun k u hu => ?_) rfl ?_
  · rw [ad0]
    show (w.alloc (.cells #[.int .i64 r.e, .string ⟨r.d.toArray⟩] 23)).cell? _ = _
    rw [cell_of_row _ _ k _ _ _ hb]
    simpa [recC] using hu
  refine call_ (Write_ok r (w.alloc (.cells #[.int .i64 r.e, .string ⟨r.d.toArray⟩] 23)) (ht.new n0)) ?_
  rintro e w2 ⟨v2, rfl, own2, n2⟩
  obtain ⟨A2, c2, rfl, _⟩ := own_slice own2
  exact ⟨_, rfl, rfl, n0.trans n2⟩

theorem allErr_pre : ∀ (pre : List Rec) (r : Rec) (q : List Rec), (∀ x ∈ pre, writeErr x = 0) → writeErr r ≠ 0 → allErr (pre ++ r :: q) = writeErr r
  | [], r, q, _, h => by rw [List.nil_append]; unfold allErr; rw [if_neg h]
  | x :: pre, r, q, hp, h => by
    rw [List.cons_append]
    unfold allErr
    rw [if_pos (hp x List.mem_cons_self)]
    exact allErr_pre pre r q (fun y hy => hp y (List.mem_cons_of_mem _ hy)) h
theorem allErr_ok : ∀ (l : List Rec), (∀ x ∈ l, writeErr x = 0) → allErr l = 0
  | [], _ => rfl
  | x :: l, hp => by
    unfold allErr
    rw [if_pos (hp x List.mem_cons_self)]
    exact allErr_ok l (fun y hy => hp y (List.mem_cons_of_mem _ hy))
theorem enc_small {r : Rec} (h : writeErr r = 0) : (enc r).length ≤ 4108 := by
  unfold writeErr at h
  rw [enc_len]
  split at h
  · cases h
  · split at h
    · cases h
    · omega
theorem encs_len : ∀ (l : List Rec), (∀ x ∈ l, writeErr x = 0) → (l.flatMap enc).length ≤ l.length * 4108
  | [], _ => Nat.le_refl _
  | x :: l, hp => by
    rw [List.flatMap_cons, List.length_append, List.length_cons]
    have h1 := enc_small (hp x List.mem_cons_self)
    have h2 := encs_len l (fun y hy => hp y (List.mem_cons_of_mem _ hy))
    omega
theorem All_ok (A : Option Addr) (n c : Nat) (l : List Rec) (w : World) (ht : tbl w) (hn : n = l.length) (hr : Rows2 w A 2 (l.map recC)) (hm : n * 4108 ≤ 140737488355328) :
    Calls Tryd.prog 12 #[.slice A n c] w fun e w' => ∃ v, e = .returned (.tuple #[v, .int .i64 (allErr l)]) ∧ w'.ownsRow w.heap.size 5 1 v (allBs l).length (bvs (allBs l)) ∧ New w w' := by
  refine enter ok Tryd.func12 rfl rfl rfl ?_
  refine den_loop (σ := Nat × Option Addr × Nat) (fun t => [(4, .slice t.2.1 ((l.take t.1).flatMap enc).length t.2.2), (9, .slice A n c), (10, .int .i64 n), (11, .int .i64 t.1)])
    (fun m t wl => t.1 ≤ n ∧ m = n - t.1 ∧ (∀ x ∈ l.take t.1, writeErr x = 0) ∧ wl.ownsRow w.heap.size 5 1 (.slice t.2.1 ((l.take t.1).flatMap enc).length t.2.2) ((l.take t.1).flatMap enc).length (bvs ((l.take t.1).flatMap enc)) ∧ New w wl) n (0, none, 0) ⟨rfl, rfl, rfl, rfl, trivial⟩ ⟨Nat.zero_le _, rfl, by simp, ⟨rfl, .inl ⟨rfl, rfl⟩⟩, New.refl _⟩ ?_
  rintro m ⟨k, A3, c3⟩ wl fr0 ⟨hk, rfl, hgood, hown, nl⟩
  dsimp only at hk hgood hown nl
  refine if_p (fun hlt => ?_) (fun hge => ?_)
  rotate_left
  · replace hge : ¬ (k : Int) < n := hge
    have hkn : k = n := by omega
    subst hkn
    have hall : l.take k = l := by rw [hn]; exact List.take_length
    have hbs : allBs l = (l.take k).flatMap enc := by unfold allBs; rw [if_pos (allErr_ok l (hall ▸ hgood)), hall]
    rw [allErr_ok l (hall ▸ hgood), hbs]
    exact ⟨_, rfl, hown, nl⟩
  replace hlt : (k : Int) < n := hlt
  have hkl : k < l.length := by omega
  have hstep : l.take (k + 1) = l.take k ++ [l[k]] := List.take_succ_eq_append_getElem hkl
  have hsplit : l = l.take k ++ l[k] :: l.drop (k + 1) := by
    rw [List.getElem_cons_drop, List.take_append_drop]
  obtain ⟨a, rfl, hcells⟩ := hr.at_ k (by simpa using hkl)
  have hcell : ∀ j u, (recC l[k])[j]? = some u → wl.cell? ((a.add (k * 2)).add j) = some u := fun j u hu => nl.cell (hcells j u (by simpa using hu))
  have hpl := encs_len (l.take k) hgood
  rw [List.length_take, Nat.min_eq_left (by omega)] at hpl
  generalize l[k] = r at hstep hsplit hcell
  refine And.intro (by omega) (And.intro hlt ?_)
  refine loadN_row (vs := recC r) (by rw [Int.toNat_natCast]; exact hcell) rfl ?_
  refine And.intro rfl ?_
  refine storeN_all (vs := recC r) (arr := #[.int .i64 0, .string ⟨#[]⟩]) (t := 23) (heap_alloc_new wl _) rfl (by intro v hv; simp [recC] at hv; rcases hv with rfl | rfl <;> rfl) ?_
  intro w2 hb2 m2 hs2
  have n2 : New wl w2 := Mod.trans (New.alloc wl _) m2 (fun b hb e => by omega)
  have hcell2 : ∀ j u, (recC r)[j]? = some u → w2.cell? ((⟨wl.heap.size, 0, none⟩ : Addr).add j) = some u := fun j u hu => by
    rw [ad0, cell_of_row _ _ j _ _ _ hb2]
    simpa using hu
  refine loadN_row (vs := recC r) hcell2 rfl ?_
  refine call_ (Write_ok r w2 (ht.new (nl.trans n2))) ?_
  rintro e w3 ⟨v3, rfl, own3, n3⟩
  obtain ⟨A5, c5, rfl, _, _, row5, _⟩ := own_slice own3
  refine ⟨_, rfl, ?_⟩
  refine if_n (fun hne => ?_) (fun he => ?_)
  · replace hne : ¬ writeErr r = 0 := hne
    have hae : allErr l = writeErr r := by rw [hsplit]; exact allErr_pre _ _ _ hgood hne
    have hab : allBs l = [] := by unfold allBs; rw [hae, if_neg hne]
    rw [hae, hab]
    exact ⟨_, rfl, ⟨rfl, .inl ⟨rfl, rfl⟩⟩, (nl.trans n2).trans n3⟩
  replace he : writeErr r = 0 := he
  have hwb : writeBs r = enc r := by unfold writeBs; rw [if_pos he]
  rw [hwb] at row5
  have hel := enc_small he
  have hsz := (nl.trans n2).trans n3
  have hsz' := hsz.size
  refine append2_ ok rfl rfl rfl rfl (own_new (n2.trans n3) hown) rfl rfl row5 (by rw [bvs_length, hwb]; exact (Nat.mul_one _).symm) (bvs_one _) (by decide) rfl (by rw [hwb]; show (((l.take k).flatMap enc).length + (enc r).length) * 1 ≤ _; omega) (by rw [hwb]; omega) hsz' ?_
  rw [hwb]
  intro A6 c6 w6 own6 mod6 _
  have n6 : New w w6 := Mod.trans hsz mod6 (fun b hb e => by have := (hown.lt b e.symm).1; omega)
  have hfm : (l.take (k + 1)).flatMap enc = (l.take k).flatMap enc ++ enc r := by rw [hstep, List.flatMap_append]; simp
  refine ⟨n - (k + 1), (k + 1, A6, c6), by omega, ⟨?_, rfl, rfl, ?_, trivial⟩, by show k + 1 ≤ n; omega, rfl, ?_, ?_, n6⟩
  · show Value.slice A6 (((l.take k).flatMap enc).length + (enc r).length) c6 = .slice A6 ((l.take (k + 1)).flatMap enc).length c6
    rw [hfm, List.length_append]
  · show Value.int .i64 (IntKind.i64.wrap _) = _
    rw [wrap_i64 (by omega) (by omega)]
    rfl
  · intro x hx
    rw [hstep] at hx
    rcases List.mem_append.1 hx with hx | hx
    · exact hgood x hx
    · rw [List.mem_singleton.1 hx]; exact he
  · show w6.ownsRow w.heap.size 5 1 (.slice A6 ((l.take (k + 1)).flatMap enc).length c6) ((l.take (k + 1)).flatMap enc).length (bvs ((l.take (k + 1)).flatMap enc))
    rw [hfm, List.length_append, bvs_append]
    exact own6
theorem refAll_ok (A : Option Addr) (n c : Nat) (l : List Rec) (w : World) (hn : n = l.length) (hr : Rows2 w A 2 (l.map recC)) (hm : n * 4108 ≤ 140737488355328) :
    Calls Tryd.prog 13 #[.slice A n c] w fun e w' => ∃ v, e = .returned (.tuple #[v, .int .i64 (allErr l)]) ∧ w'.ownsRow w.heap.size 5 1 v (allBs l).length (bvs (allBs l)) ∧ New w w' := by
  refine enter ok Tryd.func13 rfl rfl rfl ?_
  have own0 := own_lit w [] 5 1 0 w.heap.size (Nat.le_refl _) rfl (by omega)
  have n0 := New.alloc w (.cells #[] 5)
  refine den_loop (σ := Nat × Option Addr × Nat) (fun t => [(0, .slice A n c), (4, .slice t.2.1 ((l.take t.1).flatMap enc).length t.2.2), (5, .int .i64 t.1)])
    (fun m t wl => t.1 ≤ n ∧ m = n - t.1 ∧ (∀ x ∈ l.take t.1, writeErr x = 0) ∧ wl.ownsRow w.heap.size 5 1 (.slice t.2.1 ((l.take t.1).flatMap enc).length t.2.2) ((l.take t.1).flatMap enc).length (bvs ((l.take t.1).flatMap enc)) ∧ New w wl) n (0, some ⟨w.heap.size, 0, none⟩, 0) ⟨rfl, rfl, rfl, trivial⟩ ⟨Nat.zero_le _, rfl, by simp, own0, n0⟩ ?_
  rintro m ⟨k, A3, c3⟩ wl fr0 ⟨hk, rfl, hgood, hown, nl⟩
  dsimp only at hk hgood hown nl
  refine if_p (fun hlt => ?_) (fun hge => ?_)
  rotate_left
  · replace hge : ¬ (k : Int) < n := hge
    have hkn : k = n := by omega
    subst hkn
    have hall : l.take k = l := by rw [hn]; exact List.take_length
    have hbs : allBs l = (l.take k).flatMap enc := by unfold allBs; rw [if_pos (allErr_ok l (hall ▸ hgood)), hall]
    rw [allErr_ok l (hall ▸ hgood), hbs]
    exact ⟨_, rfl, hown, nl⟩
  replace hlt : (k : Int) < n := hlt
  have hkl : k < l.length := by omega
  have hstep : l.take (k + 1) = l.take k ++ [l[k]] := List.take_succ_eq_append_getElem hkl
  have hsplit : l = l.take k ++ l[k] :: l.drop (k + 1) := by
    rw [List.getElem_cons_drop, List.take_append_drop]
  obtain ⟨a, rfl, hcells⟩ := hr.at_ k (by simpa using hkl)
  have hcell : ∀ j u, (recC l[k])[j]? = some u → wl.cell? ((a.add (k * 2)).add j) = some u := fun j u hu => nl.cell (hcells j u (by simpa using hu))
  have hpl := encs_len (l.take k) hgood
  rw [List.length_take, Nat.min_eq_left (by omega)] at hpl
  generalize l[k] = r at hstep hsplit hcell
  refine And.intro (by omega) (And.intro hlt ?_)
  refine loadN_row (vs := recC r) (by rw [Int.toNat_natCast]; exact hcell) rfl ?_
  refine call_ (refWrite_ok r wl) ?_
  rintro e w3 ⟨v3, rfl, own3, n3⟩
  obtain ⟨A5, c5, rfl, _, _, row5, _⟩ := own_slice own3
  refine ⟨_, rfl, ?_⟩
  refine if_n (fun hne => ?_) (fun he => ?_)
  · replace hne : ¬ writeErr r = 0 := hne
    have hae : allErr l = writeErr r := by rw [hsplit]; exact allErr_pre _ _ _ hgood hne
    have hab : allBs l = [] := by unfold allBs; rw [hae, if_neg hne]
    rw [hae, hab]
    exact ⟨_, rfl, ⟨rfl, .inl ⟨rfl, rfl⟩⟩, nl.trans n3⟩
  replace he : writeErr r = 0 := he
  have hwb : writeBs r = enc r := by unfold writeBs; rw [if_pos he]
  rw [hwb] at row5
  have hel := enc_small he
  have hsz := nl.trans n3
  have hsz' := hsz.size
  refine append2_ ok rfl rfl rfl rfl (own_new n3 hown) rfl rfl row5 (by rw [bvs_length, hwb]; exact (Nat.mul_one _).symm) (bvs_one _) (by decide) rfl (by rw [hwb]; show (((l.take k).flatMap enc).length + (enc r).length) * 1 ≤ _; omega) (by rw [hwb]; omega) hsz' ?_
  rw [hwb]
  intro A6 c6 w6 own6 mod6 _
  have n6 : New w w6 := Mod.trans hsz mod6 (fun b hb e => by have := (hown.lt b e.symm).1; omega)
  have hfm : (l.take (k + 1)).flatMap enc = (l.take k).flatMap enc ++ enc r := by rw [hstep, List.flatMap_append]; simp
  refine ⟨n - (k + 1), (k + 1, A6, c6), by omega, ⟨rfl, ?_, ?_, trivial⟩, by show k + 1 ≤ n; omega, rfl, ?_, ?_, n6⟩
  · show Value.slice A6 (((l.take k).flatMap enc).length + (enc r).length) c6 = .slice A6 ((l.take (k + 1)).flatMap enc).length c6
    rw [hfm, List.length_append]
  · show Value.int .i64 (IntKind.i64.wrap _) = _
    rw [wrap_i64 (by omega) (by omega)]
    rfl
  · intro x hx
    rw [hstep] at hx
    rcases List.mem_append.1 hx with hx | hx
    · exact hgood x hx
    · rw [List.mem_singleton.1 hx]; exact he
  · show w6.ownsRow w.heap.size 5 1 (.slice A6 ((l.take (k + 1)).flatMap enc).length c6) ((l.take (k + 1)).flatMap enc).length (bvs ((l.take (k + 1)).flatMap enc))
    rw [hfm, List.length_append, bvs_append]
    exact own6
theorem SameRecords_ok (A B : Option Addr) (n c m d : Nat) (l : List Rec) (w : World) (hn : n = l.length) (hm : m = l.length) (ha : Rows2 w A 2 (l.map recC)) (hb : Rows2 w B 2 (l.map recC)) (h63 : n ≤ 9223372036854775807) :
    Calls Tryd.prog 18 #[.slice A n c, .slice B m d] w fun e w' => e = .returned (.bool true) ∧ New w w' := by
  refine enter ok Tryd.func18 rfl rfl rfl ?_
  refine if_n (fun h => absurd (show (n : Int) = m by omega) h) (fun _ => ?_)
  refine den_loop (σ := Nat) (fun i => [(0, .slice A n c), (1, .slice B m d), (5, .int .i64 i)]) (fun k i wl => i ≤ n ∧ k = n - i ∧ New w wl) n 0 ⟨rfl, rfl, rfl, trivial⟩ ⟨Nat.zero_le _, rfl, New.refl _⟩ ?_
  rintro k i wl fr0 ⟨hi, rfl, nl⟩
  refine if_p (fun hlt => ?_) (fun hge => ?_)
  · replace hlt : (i : Int) < n := hlt
    have hil : i < l.length := by omega
    obtain ⟨a, rfl, hca⟩ := ha.at_ i (by simpa using hil)
    obtain ⟨b, rfl, hcb⟩ := hb.at_ i (by simpa using hil)
    have ec : ((l.map recC)[i]'(by simpa using hil)) = recC l[i] := by simp
    rw [ec] at hca hcb
    refine draw_ ok (.q 0 (.q 1 (.q 2 (.q 3 (.q 4 (.q 5 (.q 6 (.q 7 (.q 8 .done))))))))) [8] (New wl) (by kernel_rfl) (by kernel_rfl) (by kernel_rfl) (by kernel_rfl) (by kernel_rfl) (New.drew _) ?_
    refine And.intro (by omega) (And.intro hlt ?_)
    refine loadNC_row (vs := recC l[i]) (fun j u hu w'' hw => by rw [Int.toNat_natCast]; exact hw.cell (nl.cell (hca j u hu))) rfl ?_
    refine And.intro (by omega) (And.intro (by omega) ?_)
    refine loadNC_row (vs := recC l[i]) (fun j u hu w'' hw => by rw [Int.toNat_natCast]; exact hw.cell (nl.cell (hcb j u hu))) rfl ?_
    refine Exists.intro (.bool false) (And.intro (fun w'' _ => agg_cmp ok rfl rfl rfl (by kernel_rfl) (by kernel_rfl) rfl rfl rfl false (.inr ⟨rfl, by simp [flatEq, cellEq, recC]⟩) w'') ?_)
    refine ⟨n - (i + 1), i + 1, by omega, ⟨rfl, rfl, ?_, trivial⟩, by omega, rfl, nl.trans (New.drew _)⟩
    show Value.int .i64 (IntKind.i64.wrap _) = _
    rw [wrap_i64 (by omega) (by omega)]
    rfl
  · exact ⟨rfl, nl⟩
end Go.Proofs.YtpcoleeggeahlaaDoor.Frame

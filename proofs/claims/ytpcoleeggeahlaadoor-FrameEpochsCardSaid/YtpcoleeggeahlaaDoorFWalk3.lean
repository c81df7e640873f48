/- The package frame's reference, walked; many records written; sizes; records compared. -/
import Derived.Test.YtpcoleeggeahlaaDoorFWalk2
namespace Go.Proofs.YtpcoleeggeahlaaDoor.Frame
open Go Go.Proofs.YtpcoleeggeahlaaDoor Go.Proofs.YtpcoleeggeahlaaDoor.Eng Go.Proofs Go.Proofs.YtpcoleeggeahlaaDoor.Sum
set_option maxRecDepth 10000

theorem four_ok (z : Nat) (w : World) :
    Calls Tryd.prog 24 #[.int .i64 z] w fun e w' => ∃ v, e = .returned v ∧ w'.ownsRow w.heap.size 5 1 v 4 (bvs (be4 z)) ∧ New w w' := by
  refine enter ok Tryd.func24 rfl rfl rfl ?_
  refine And.intro (by decide) (And.intro (by decide) (And.intro (by decide) ?_))
  have e : (#[.int .u8 (IntKind.u8.wrap ((z : Int) / 2 ^ min (24 : Int).toNat IntKind.i64.bits)), .int .u8 (IntKind.u8.wrap ((z : Int) / 2 ^ min (16 : Int).toNat IntKind.i64.bits)), .int .u8 (IntKind.u8.wrap ((z : Int) / 2 ^ min (8 : Int).toNat IntKind.i64.bits)), .int .u8 (IntKind.u8.wrap (z : Int))] : Array Value) = (bvs (be4 z)).toArray := by
    have h24 := u8_shr z 24
    have h16 := u8_shr z 16
    have h8 := u8_shr z 8
    have h0 : IntKind.u8.wrap (z : Int) = ((UInt8.ofNat z).toNat : Int) := by rw [IntKind.wrap_u8, UInt8.toNat_ofNat']; omega
    rw [show min (24 : Int).toNat IntKind.i64.bits = 24 from rfl, show min (16 : Int).toNat IntKind.i64.bits = 16 from rfl, show min (8 : Int).toNat IntKind.i64.bits = 8 from rfl, h24, h16, h8, h0]
    rfl
  have hown : (w.alloc (.cells #[.int .u8 (IntKind.u8.wrap ((z : Int) / 2 ^ min (24 : Int).toNat IntKind.i64.bits)), .int .u8 (IntKind.u8.wrap ((z : Int) / 2 ^ min (16 : Int).toNat IntKind.i64.bits)), .int .u8 (IntKind.u8.wrap ((z : Int) / 2 ^ min (8 : Int).toNat IntKind.i64.bits)), .int .u8 (IntKind.u8.wrap (z : Int))] 5)).ownsRow w.heap.size 5 1 (.slice (some ⟨w.heap.size, 0, none⟩) 4 4) 4 (bvs (be4 z)) := by
    rw [e]
    exact own_lit w (bvs (be4 z)) 5 1 4 w.heap.size (Nat.le_refl _) rfl (by omega)
  exact ⟨_, rfl, hown, New.alloc _ _⟩

theorem refWrite_ok (r : Rec) (w : World) :
    Calls Tryd.prog 15 #[recV r] w fun e w' => ∃ v, e = .returned (.tuple #[v, .int .i64 (writeErr r)]) ∧ w'.ownsRow w.heap.size 5 1 v (writeBs r).length (bvs (writeBs r)) ∧ New w w' := by
  refine enter ok Tryd.func15 rfl rfl rfl ?_
  have n0 := New.alloc w (.cells #[.int .i64 r.e, .string ⟨r.d.toArray⟩] 23)
  have hb := heap_alloc_new w (.cells #[.int .i64 r.e, .string ⟨r.d.toArray⟩] 23)
  have no : ∀ x : Int, writeErr r = x → x ≠ 0 → ∃ v, Ending.returned (.tuple #[.slice none 0 0, .int .i64 x]) = .returned (.tuple #[v, .int .i64 (writeErr r)]) ∧ (w.alloc (.cells #[.int .i64 r.e, .string ⟨r.d.toArray⟩] 23)).ownsRow w.heap.size 5 1 v (writeBs r).length (bvs (writeBs r)) ∧ New w (w.alloc (.cells #[.int .i64 r.e, .string ⟨r.d.toArray⟩] 23)) := by
    intro x hx hne
    have : writeBs r = [] := by unfold writeBs; rw [hx, if_neg hne]
    rw [this, hx]
    exact ⟨_, rfl, ⟨rfl, .inl ⟨rfl, rfl⟩⟩, n0⟩
  have cell : ∀ {w' : World}, New (w.alloc (.cells #[.int .i64 r.e, .string ⟨r.d.toArray⟩] 23)) w' → ∀ j u, [Value.int .i64 r.e, .string ⟨r.d.toArray⟩][j]? = some u → w'.cell? ⟨w.heap.size, j, none⟩ = some u := fun m j u hu => by
    rw [cell_of_row _ _ j _ _ _ (m.blk hb)]
    simpa using hu
  have c0 := cell (New.refl _) 0 _ rfl
  have c1 := cell (New.refl _) 1 _ rfl
  refine Exists.intro r.e ?_
  refine And.intro (by rw [ad0]; exact c0) ?_
  refine if_p (fun h0 => ?_) (fun h0 => ?_)
  · exact no 2 (by unfold writeErr; rw [if_pos (.inl h0)]) (by decide)
  refine Exists.intro r.e ?_
  refine And.intro (by rw [ad0]; exact c0) ?_
  refine if_p (fun h1 => ?_) (fun h1 => ?_)
  · exact no 2 (by unfold writeErr; rw [if_pos (.inr h1)]) (by decide)
  replace h0 : ¬ r.e < 0 := h0
  replace h1 : ¬ 4294967295 < r.e := h1
  refine Exists.intro ⟨r.d.toArray⟩ ?_
  refine And.intro (by rw [ad0]; exact c1) ?_
  refine if_p (fun h2 => ?_) (fun h2 => ?_)
  · replace h2 : (4096 : Int) < (ByteArray.mk r.d.toArray).size := h2
    rw [size_str] at h2
    exact no 3 (by unfold writeErr; rw [if_neg (by omega), if_pos (by omega)]) (by decide)
  replace h2 : ¬ (4096 : Int) < (ByteArray.mk r.d.toArray).size := h2
  rw [size_str] at h2
  have he : writeErr r = 0 := by unfold writeErr; rw [if_neg (by omega), if_neg (by omega)]
  have hbs : writeBs r = enc r := by unfold writeBs; rw [if_pos he]
  rw [he, hbs]
  have hs1 : (w.alloc (.cells #[.int .i64 r.e, .string ⟨r.d.toArray⟩] 23)).heap.size = w.heap.size + 1 := by simp
  have hte : ((r.e.toNat : Nat) : Int) = r.e := by omega
  refine draw_ (w := (w.alloc (.cells #[.int .i64 r.e, .string ⟨r.d.toArray⟩] 23))) ok (.q 0 (.q 1 (.q 2 (.q 4 (.q 5 (.e 3 (.e 6 (.e 7 (.q 8 .done))))))))) [8] (New (w.alloc (.cells #[.int .i64 r.e, .string ⟨r.d.toArray⟩] 23))) (by kernel_rfl) (by kernel_rfl) (by kernel_rfl) (by kernel_rfl) (by kernel_rfl) (New.drew _) ?_
  refine Exists.intro ⟨r.d.toArray⟩ ?_
  refine And.intro (fun w'' hw => by rw [ad0]; exact cell hw 1 _ rfl) ?_
  refine Exists.intro r.e ?_
  refine And.intro (fun w'' hw => by rw [ad0]; exact cell hw 0 _ rfl) ?_
  have hf1 := four_ok r.d.length (w.alloc (.cells #[.int .i64 r.e, .string ⟨r.d.toArray⟩] 23)).drew
  rw [← size_str r.d] at hf1
  refine call_ hf1 ?_
  rw [size_str]
  rintro e w3 ⟨v3, rfl, own3, n3⟩
  obtain ⟨A3, c3, rfl, _⟩ := own_slice own3
  refine ⟨_, rfl, ?_⟩
  have k3 := (New.drew (w.alloc (.cells #[.int .i64 r.e, .string ⟨r.d.toArray⟩] 23))).trans n3
  refine Exists.intro (New _) (And.intro (fun _ h => h) (And.intro k3 ?_))
  have hf2 := four_ok r.e.toNat w3
  rw [hte] at hf2
  refine call_ hf2 ?_
  rintro e w4 ⟨v4, rfl, own4, n4⟩
  obtain ⟨A4, c4, rfl, _, _, row4, _⟩ := own_slice own4
  refine ⟨_, rfl, ?_⟩
  have k4 := k3.trans n4
  refine Exists.intro (New _) (And.intro (fun _ h => h) (And.intro k4 ?_))
  refine eff_app rfl rfl (fun _ _ => rfl) ?_
  have hbase : (w.alloc (.cells #[.int .i64 r.e, .string ⟨r.d.toArray⟩] 23)).drew.heap.size ≤ w4.heap.size := k4.size
  refine append2_ ok rfl rfl rfl rfl (own_new n4 own3) rfl rfl row4 rfl (bvs_one _) (by decide) rfl (by decide) (by decide) hbase ?_
  intro A5 c5 w5 own5 mod5 _
  have k5 : New (w.alloc (.cells #[.int .i64 r.e, .string ⟨r.d.toArray⟩] 23)) w5 := Mod.trans k4 mod5 fun b hb e => by
    have h9 : (w.alloc (.cells #[.int .i64 r.e, .string ⟨r.d.toArray⟩] 23)).heap.size ≤ b := (own3.lt b e.symm).1
    omega
  refine Exists.intro (New _) (And.intro (fun _ h => h) (And.intro k5 ?_))
  rw [← bvs_append] at own5
  refine Exists.intro ⟨r.d.toArray⟩ ?_
  refine And.intro (by rw [ad0]; exact cell k5 1 _ rfl) ?_
  have hs5 := k5.size
  refine append_str_ ok rfl rfl rfl rfl rfl rfl rfl rfl rfl own5 rfl rfl (by omega) (by show (w.alloc (.cells #[.int .i64 r.e, .string ⟨r.d.toArray⟩] 23)).heap.size ≤ _; exact hs5) ?_
  intro A6 c6 w6 own6 mod6
  have k6 : New (w.alloc (.cells #[.int .i64 r.e, .string ⟨r.d.toArray⟩] 23)) w6 := Mod.trans k5 mod6 fun b hb e => by
    have h9 : (w.alloc (.cells #[.int .i64 r.e, .string ⟨r.d.toArray⟩] 23)).heap.size ≤ b := (own5.lt b e.symm).1
    omega
  rw [← bvs_append] at own6
  obtain ⟨_, _, he6, _, _, row6, _⟩ := own_slice own6
  cases he6
  refine call_ (refSeal_ok A6 _ c6 (be4 r.d.length ++ be4 r.e.toNat ++ r.d) w6 (by rw [List.length_append, List.length_append, be4_len, be4_len]) row6 (by omega)) ?_
  rintro e w7 ⟨v7, rfl, own7, n7⟩
  refine ⟨_, rfl, ?_⟩
  have hle : (enc r).length = 4 + 4 + r.d.length + 4 := by rw [enc_len]; omega
  rw [← hle] at own7
  obtain ⟨A7, c7, rfl, _⟩ := own_slice own7
  have hsz := k6.size
  exact ⟨_, rfl, own_base own7 (by omega), (n0.trans k6).trans n7⟩
end Go.Proofs.YtpcoleeggeahlaaDoor.Frame

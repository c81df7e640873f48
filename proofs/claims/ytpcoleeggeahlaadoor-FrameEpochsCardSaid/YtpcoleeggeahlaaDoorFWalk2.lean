/- The package frame and its reference, walked: a record written, many. -/
import Derived.Test.YtpcoleeggeahlaaDoorFWalk1
namespace Go.Proofs.YtpcoleeggeahlaaDoor.Frame
open Go Go.Proofs.YtpcoleeggeahlaaDoor Go.Proofs.YtpcoleeggeahlaaDoor.Eng Go.Proofs Go.Proofs.YtpcoleeggeahlaaDoor.Sum
set_option maxRecDepth 10000

def recC (r : Rec) : List Value := [.int .i64 r.e, .string ⟨r.d.toArray⟩]
def recV (r : Rec) : Value := .agg #[.int .i64 r.e, .string ⟨r.d.toArray⟩]
theorem tblA {w : World} (h : tbl w) (o : Obj) : tbl (w.alloc o) := h.new (New.alloc w o)
theorem size_str (d : List UInt8) : (ByteArray.mk d.toArray).size = d.length := by simp [ByteArray.size]
theorem own_base {w : World} {b b' : Nat} {e : TypeId} {sz n : Nat} {v : Value} {xs : List Value} (h : w.ownsRow b' e sz v n xs) (hb : b ≤ b') : w.ownsRow b e sz v n xs :=
  ⟨h.1, h.2.imp id fun ⟨g, cap, cur, e, hg, r⟩ => ⟨g, cap, cur, e, Nat.le_trans hb hg, r⟩⟩
theorem Write_ok (r : Rec) (w : World) (ht : tbl w) :
    Calls Tryd.prog 8 #[recV r] w fun e w' => ∃ v, e = .returned (.tuple #[v, .int .i64 (writeErr r)]) ∧ w'.ownsRow w.heap.size 5 1 v (writeBs r).length (bvs (writeBs r)) ∧ New w w' := by
  refine enter ok Tryd.func8 rfl rfl rfl ?_
  have n0 := New.alloc w (.cells #[.int .i64 r.e, .string ⟨r.d.toArray⟩] 23)
  have hb := heap_alloc_new w (.cells #[.int .i64 r.e, .string ⟨r.d.toArray⟩] 23)
  have no : ∀ x : Int, writeErr r = x → x ≠ 0 → ∃ v, Ending.returned (.tuple #[.slice none 0 0, .int .i64 x]) = .returned (.tuple #[v, .int .i64 (writeErr r)]) ∧ (w.alloc (.cells #[.int .i64 r.e, .string ⟨r.d.toArray⟩] 23)).ownsRow w.heap.size 5 1 v (writeBs r).length (bvs (writeBs r)) ∧ New w (w.alloc (.cells #[.int .i64 r.e, .string ⟨r.d.toArray⟩] 23)) := by
    intro x hx hne
    have : writeBs r = [] := by unfold writeBs; rw [hx, if_neg hne]
    rw [this, hx]
    exact ⟨_, rfl, ⟨rfl, .inl ⟨rfl, rfl⟩⟩, n0⟩
  have cell : ∀ {w' : World}, New (w.alloc (.cells #[.int .i64 r.e, .string ⟨r.d.toArray⟩] 23)) w' → ∀ j u, [Value.int .i64 r.e, .string ⟨r.d.toArray⟩][j]? = some u → w'.cell? ⟨w.heap.size, j, none⟩ = some u := fun m j u hu => by
    rw [cell_of_row _ _ j _ _ _ (m.blk hb)]
    simpa using hu
  have c0 := cell (New.refl _) 0 _ rfl
  have c1 := cell (New.refl _) 1 _ rfl
  refine Exists.intro r.e ?_
  refine And.intro (by rw [ad0]; exact c0) ?_
  refine if_p (fun h0 => ?_) (fun h0 => ?_)
  · exact no 2 (by unfold writeErr; rw [if_pos (.inl h0)]) (by decide)
  refine Exists.intro r.e ?_
  refine And.intro (by rw [ad0]; exact c0) ?_
  refine if_p (fun h1 => ?_) (fun h1 => ?_)
  · exact no 2 (by unfold writeErr; rw [if_pos (.inr h1)]) (by decide)
  replace h0 : ¬ r.e < 0 := h0
  replace h1 : ¬ 4294967295 < r.e := h1
  refine Exists.intro ⟨r.d.toArray⟩ ?_
  refine And.intro (by rw [ad0]; exact c1) ?_
  refine if_p (fun h2 => ?_) (fun h2 => ?_)
  · replace h2 : (4096 : Int) < (ByteArray.mk r.d.toArray).size := h2
    rw [size_str] at h2
    exact no 3 (by unfold writeErr; rw [if_neg (by omega), if_pos (by omega)]) (by decide)
  replace h2 : ¬ (4096 : Int) < (ByteArray.mk r.d.toArray).size := h2
  rw [size_str] at h2
  have he : writeErr r = 0 := by unfold writeErr; rw [if_neg (by omega), if_neg (by omega)]
  have hbs : writeBs r = enc r := by unfold writeBs; rw [if_pos he]
  have hcut : be4 r.d.length ++ be4 r.e.toNat = [r.d.length, r.e.toNat].flatMap be4 := by simp
  rw [he, hbs]
  have ht1 := ht.new n0
  have hs1 : (w.alloc (.cells #[.int .i64 r.e, .string ⟨r.d.toArray⟩] 23)).heap.size = w.heap.size + 1 := by simp
  refine draw_ (w := (w.alloc (.cells #[.int .i64 r.e, .string ⟨r.d.toArray⟩] 23))) ok (.q 0 (.q 1 (.q 2 (.q 3 (.q 4 (.q 7 (.q 8 (.e 5 (.e 6 (.e 9 (.e 10 (.q 11 (.q 12 .done))))))))))))) [12] (New (w.alloc (.cells #[.int .i64 r.e, .string ⟨r.d.toArray⟩] 23))) (by kernel_rfl) (by kernel_rfl) (by kernel_rfl) (by kernel_rfl) (by kernel_rfl) (New.drew _) ?_
  refine Exists.intro ⟨r.d.toArray⟩ ?_
  refine And.intro (fun w'' hw => by rw [ad0]; exact cell hw 1 _ rfl) ?_
  refine Exists.intro r.e ?_
  refine And.intro (fun w'' hw => by rw [ad0]; exact cell hw 0 _ rfl) ?_
  refine Exists.intro ⟨r.d.toArray⟩ ?_
  refine And.intro (fun w'' hw => by rw [ad0]; exact cell hw 1 _ rfl) ?_
  have e2 : (.cells #[.int .i64 ((ByteArray.mk r.d.toArray).size : Int), .int .i64 r.e] 3 : Obj) = .cells (ivs ([r.d.length, r.e.toNat].map fun (z : Nat) => (z : Int))).toArray 3 := by
    rw [size_str]
    have : ((r.e.toNat : Nat) : Int) = r.e := by omega
    simp [ivs, this]
  have k2 := (New.drew (w.alloc (.cells #[.int .i64 r.e, .string ⟨r.d.toArray⟩] 23))).trans (New.alloc (w.alloc (.cells #[.int .i64 r.e, .string ⟨r.d.toArray⟩] 23)).drew (.cells #[.int .i64 ((ByteArray.mk r.d.toArray).size : Int), .int .i64 r.e] 3))
  refine Exists.intro (New (w.alloc (.cells #[.int .i64 r.e, .string ⟨r.d.toArray⟩] 23))) (And.intro (fun _ h => h) (And.intro k2 ?_))
  have hrow2 : Row ((w.alloc (.cells #[.int .i64 r.e, .string ⟨r.d.toArray⟩] 23)).drew.alloc (.cells #[.int .i64 ((ByteArray.mk r.d.toArray).size : Int), .int .i64 r.e] 3)) (some ⟨(w.alloc (.cells #[.int .i64 r.e, .string ⟨r.d.toArray⟩] 23)).drew.heap.size, 0, none⟩) (ivs ([r.d.length, r.e.toNat].map fun (z : Nat) => (z : Int))) := by
    rw [e2]
    exact row_alloc (w.alloc (.cells #[.int .i64 r.e, .string ⟨r.d.toArray⟩] 23)).drew _ _ _
  refine call_ (numbers_ok (some ⟨(w.alloc (.cells #[.int .i64 r.e, .string ⟨r.d.toArray⟩] 23)).drew.heap.size, 0, none⟩) 2 2 [r.d.length, r.e.toNat] _ rfl hrow2 (by omega) (by
    intro z hz
    rcases List.mem_cons.1 hz with rfl | hz
    · omega
    · rw [List.mem_singleton.1 hz]; omega)) ?_
  rintro e w3 ⟨v3, rfl, own3, n3⟩
  obtain ⟨A3, c3, rfl, _⟩ := own_slice own3
  refine ⟨_, rfl, ?_⟩
  have k3 := k2.trans n3
  refine Exists.intro (New (w.alloc (.cells #[.int .i64 r.e, .string ⟨r.d.toArray⟩] 23))) (And.intro (fun _ h => h) (And.intro k3 ?_))
  refine eff_app rfl rfl (fun _ _ => rfl) ?_
  have hl3 : ([r.d.length, r.e.toNat].flatMap be4).length = 8 := by rw [← hcut]; rfl
  refine append_str_ ok rfl rfl rfl rfl rfl rfl rfl rfl rfl own3 rfl rfl (by omega) n3.size ?_
  intro A4 c4 w4 own4 mod4
  have k4 : New (w.alloc (.cells #[.int .i64 r.e, .string ⟨r.d.toArray⟩] 23)) w4 := Mod.trans k3 mod4 fun b hb e => by
    have h9 := (own3.lt b e.symm).1
    have h10 := k2.size
    exact absurd hb (Nat.not_lt.2 (Nat.le_trans h10 h9))
  refine Exists.intro (New (w.alloc (.cells #[.int .i64 r.e, .string ⟨r.d.toArray⟩] 23))) (And.intro (fun _ h => h) (And.intro k4 ?_))
  obtain ⟨_, _, he4, _, _, row4, _⟩ := own_slice own4
  cases he4
  have hsealed : enc r = sealed ([r.d.length, r.e.toNat].flatMap be4 ++ r.d) := by unfold enc; rw [hcut]
  refine call_ (Seal_ok A4 _ c4 ([r.d.length, r.e.toNat].flatMap be4 ++ r.d) w4 (ht1.new k4) (by rw [List.length_append]) (by rw [bvs_append]; exact row4) (by omega)) ?_
  rintro e w5 ⟨v5, rfl, own5, n5⟩
  refine ⟨_, rfl, ?_⟩
  refine Exists.intro (New (w.alloc (.cells #[.int .i64 r.e, .string ⟨r.d.toArray⟩] 23))) (And.intro (fun _ h => h) (And.intro (k4.trans n5) ?_))
  rw [← hsealed] at own5
  have hle : (enc r).length = ([r.d.length, r.e.toNat].flatMap be4).length + r.d.length + 4 := by rw [enc_len, hl3]; omega
  rw [← hle] at own5
  obtain ⟨A5, c5, rfl, _⟩ := own_slice own5
  have hsz := k4.size
  exact ⟨_, rfl, own_base own5 (by omega), (n0.trans k4).trans n5⟩
end Go.Proofs.YtpcoleeggeahlaaDoor.Frame

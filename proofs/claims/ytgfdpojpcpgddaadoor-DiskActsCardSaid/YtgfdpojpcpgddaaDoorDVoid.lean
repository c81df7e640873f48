/- The statement DiskVoid, walked: disks that no call made. -/
import Derived.Test.YtgfdpojpcpgddaaDoorDWorks
namespace Go.Proofs.YtgfdpojpcpgddaaDoor.Disk
open Go Go.Proofs.YtgfdpojpcpgddaaDoor Go.Proofs.YtgfdpojpcpgddaaDoor.Eng Go.Proofs
set_option maxRecDepth 10000

def Void (w : World) (p : Option Addr) : Prop := p = none ∨ ∃ g, p = some ⟨g, 0, none⟩ ∧ w.cell? ⟨g, 0, none⟩ = some (.slice none 0 0) ∧ w.cell? ⟨g, 1, none⟩ = some (.int .i64 0)
theorem Void.new {w w' : World} {p : Option Addr} (h : Void w p) (n : New w w') : Void w' p := by
  rcases h with h | ⟨g, h, h0, h1⟩
  · exact .inl h
  · exact .inr ⟨g, h, n.cell h0, n.cell h1⟩
theorem Count_void (p : Option Addr) (w : World) (h : Void w p) : Calls Tryd.prog 25 #[.pointer p] w fun e w' => e = .returned (.int .i64 0) ∧ w' = w := by
  refine enter ok Tryd.func25 rfl rfl rfl ?_
  rcases h with rfl | ⟨g, rfl, h0, h1⟩
  · exact ⟨rfl, rfl⟩
  · exact Exists.intro none (Exists.intro 0 (Exists.intro 0 (And.intro (by rw [ad0]; exact h0) ⟨rfl, rfl⟩)))
theorem Moves_void (p : Option Addr) (w : World) (h : Void w p) : Calls Tryd.prog 34 #[.pointer p] w fun e w' => e = .returned (.int .i64 0) ∧ w' = w := by
  refine enter ok Tryd.func34 rfl rfl rfl ?_
  rcases h with rfl | ⟨g, rfl, h0, h1⟩
  · exact ⟨rfl, rfl⟩
  · exact Exists.intro 0 (And.intro (by rw [ad0]; exact h1) ⟨rfl, rfl⟩)
theorem Fetch_void (p : Option Addr) (at_ : Int) (w : World) (h : Void w p) : Calls Tryd.prog 22 #[.pointer p, .int .i64 at_] w fun e w' => e = .returned (.tuple #[.slice none 0 0, .int .i64 1]) ∧ w' = w := by
  refine enter ok Tryd.func22 rfl rfl rfl ?_
  refine call_ (Count_void p w h) ?_
  rintro e w1 ⟨rfl, rfl⟩
  exact ⟨_, rfl, rfl, rfl⟩
theorem Trip_void (p : Option Addr) (n : Int) (w : World) (h : Void w p) : Calls Tryd.prog 30 #[.pointer p, .int .i64 n] w fun e w' => e = .returned (.int .i64 1) ∧ w' = w := by
  refine enter ok Tryd.func30 rfl rfl rfl ?_
  refine call_ (Count_void p w h) ?_
  rintro e w1 ⟨rfl, rfl⟩
  exact ⟨_, rfl, rfl, rfl⟩
theorem Crash_void (p : Option Addr) (K : Option Addr) (n c : Nat) (w : World) (h : Void w p) : Calls Tryd.prog 15 #[.pointer p, .slice K n c] w fun e w' => e = .returned (.int .i64 1) ∧ w' = w := by
  refine enter ok Tryd.func15 rfl rfl rfl ?_
  refine call_ (Count_void p w h) ?_
  rintro e w1 ⟨rfl, rfl⟩
  exact ⟨_, rfl, rfl, rfl⟩
theorem Barrier_void (p : Option Addr) (w : World) (h : Void w p) : Calls Tryd.prog 17 #[.pointer p] w fun e w' => e = .returned (.int .i64 1) ∧ New w w' := by
  refine enter ok Tryd.func17 rfl rfl rfl ?_
  have n1 := New.alloc w (.cells #[.pointer p] 25)
  refine Exists.intro p ?_
  refine And.intro (by rw [cell_of_row _ _ 0 _ _ _ (heap_alloc_new w _)]; rfl) ?_
  refine call_ (Count_void p (w.alloc (.cells #[.pointer p] 25)) (h.new n1)) ?_
  rintro e w1 ⟨rfl, rfl⟩
  exact ⟨_, rfl, rfl, n1⟩
theorem Store_void (p : Option Addr) (at_ : Int) (B : Option Addr) (n c : Nat) (w : World) (h : Void w p) : Calls Tryd.prog 18 #[.pointer p, .int .i64 at_, .slice B n c] w fun e w' => e = .returned (.int .i64 1) ∧ New w w' := by
  refine enter ok Tryd.func18 rfl rfl rfl ?_
  have n1 := New.alloc w (.cells #[.pointer p] 25)
  have n3 := (n1.trans (New.alloc (w.alloc (.cells #[.pointer p] 25)) (.cells #[.int .i64 at_] 3))).trans (New.alloc ((w.alloc (.cells #[.pointer p] 25)).alloc (.cells #[.int .i64 at_] 3)) (.cells #[.slice B n c] 22))
  refine Exists.intro p ?_
  refine And.intro (((New.alloc _ _).trans (New.alloc _ _)).cell (by rw [cell_of_row _ _ 0 _ _ _ (heap_alloc_new w _)]; rfl)) ?_
  refine call_ (Count_void p (((w.alloc (.cells #[.pointer p] 25)).alloc (.cells #[.int .i64 at_] 3)).alloc (.cells #[.slice B n c] 22)) (h.new n3)) ?_
  rintro e w1 ⟨rfl, rfl⟩
  exact ⟨_, rfl, rfl, n3⟩
theorem Cached_void (p : Option Addr) (w : World) (h : Void w p) : Calls Tryd.prog 21 #[.pointer p] w fun e w' => e = .returned (.slice none 0 0) ∧ w' = w := by
  refine enter ok Tryd.func21 rfl rfl rfl ?_
  refine call_ (Count_void p w h) ?_
  rintro e w1 ⟨rfl, rfl⟩
  refine ⟨_, rfl, ?_⟩
  refine den_loop (σ := Unit) (fun _ => [(3, .slice none 0 0), (6, .int .i64 0), (7, .int .i64 0)]) (fun _ _ wl => wl = w1) 0 () ⟨rfl, rfl, rfl, trivial⟩ rfl ?_
  rintro m _ wl fr1 rfl
  exact ⟨rfl, rfl⟩
theorem Dump_void (p : Option Addr) (w : World) (h : Void w p) : Calls Tryd.prog 14 #[.pointer p] w fun e w' => ∃ A c, e = .returned (.slice A 0 c) ∧ New w w' := by
  refine enter ok Tryd.func14 rfl rfl rfl ?_
  have hb0 := Lib.fresh_isBuffer 78 5 w
  have n1 := New.alloc w (.cells #[.slice none 0 0, .int .i64 0, .int .i8 0] 78)
  refine call_ (Count_void p (w.alloc (.cells #[.slice none 0 0, .int .i64 0, .int .i8 0] 78)) (h.new n1)) ?_
  rintro e w1 ⟨rfl, hw1⟩
  rw [← hw1] at hb0 n1
  clear hw1
  refine ⟨_, rfl, ?_⟩
  refine den_loop (σ := Unit) (fun _ => [(3, .pointer (some ⟨w.heap.size, 0, none⟩)), (7, .int .i64 0), (8, .int .i64 0)]) (fun _ _ wl => wl = w1) 0 () ⟨rfl, rfl, rfl, trivial⟩ rfl ?_
  rintro m _ wl fr1 rfl
  refine call_ (Buf.Buffer_Bytes w.heap.size w.heap.size [] wl hb0) ?_
  rintro e w6 ⟨v, rfl, hown, n, rfl⟩
  obtain ⟨A, c, rfl, _⟩ := own_slice hown
  exact ⟨_, rfl, _, _, rfl, ⟨n1.os, n1.tape, n1.output, n1.size, n1.block⟩⟩

theorem DiskVoid_ok (at_ : Int) (c : UInt8) (w : World) : Calls Tryd.prog 8 #[.int .i64 at_, bv c] w fun e w' => e = .returned (.bool true) ∧ New w w' := by
  refine enter ok Tryd.func8 rfl rfl rfl ?_
  refine call_ (works_ok w) ?_
  rintro e w0 ⟨b0, rfl, rfl, n0⟩
  refine ⟨_, rfl, ?_⟩
  have hN : ∀ w', Void w' none := fun _ => .inl rfl
  have nz := New.alloc w0 (.cells #[.slice none 0 0, .int .i64 0, .int .i64 0, .bool false] 65)
  have hZ : Void (w0.alloc (.cells #[.slice none 0 0, .int .i64 0, .int .i64 0, .bool false] 65)) (some ⟨w0.heap.size, 0, none⟩) :=
    .inr ⟨_, rfl, by rw [cell_of_row _ _ 0 _ _ _ (heap_alloc_new w0 _)]; rfl, by rw [cell_of_row _ _ 1 _ _ _ (heap_alloc_new w0 _)]; rfl⟩
  refine call_ (Fetch_void none at_ (w0.alloc (.cells #[.slice none 0 0, .int .i64 0, .int .i64 0, .bool false] 65)) (hN _)) ?_
  rintro e w1 ⟨rfl, hw1⟩
  rw [← hw1] at nz hZ
  clear hw1
  refine ⟨_, rfl, ?_⟩
  refine call_ (Fetch_void _ at_ w1 hZ) ?_
  rintro e w2 ⟨rfl, rfl⟩
  refine ⟨_, rfl, ?_⟩
  refine call_ (of_ok c w2) ?_
  rintro e w3 ⟨v3, rfl, own3, n3⟩
  obtain ⟨A3, c3, rfl, _⟩ := own_slice own3
  refine ⟨_, rfl, ?_⟩
  refine call_ (Store_void none at_ A3 256 c3 w3 (hN _)) ?_
  rintro e w4 ⟨rfl, n4⟩
  refine ⟨_, rfl, ?_⟩
  refine call_ (of_ok c w4) ?_
  rintro e w5 ⟨v5, rfl, own5, n5⟩
  obtain ⟨A5, c5, rfl, _⟩ := own_slice own5
  refine ⟨_, rfl, ?_⟩
  have n25 := (n3.trans n4).trans n5
  refine call_ (Store_void _ at_ A5 256 c5 w5 (hZ.new n25)) ?_
  rintro e w6 ⟨rfl, n6⟩
  refine ⟨_, rfl, ?_⟩
  refine call_ (Barrier_void none w6 (hN _)) ?_
  rintro e w7 ⟨rfl, n7⟩
  refine ⟨_, rfl, ?_⟩
  have n27 := (n25.trans n6).trans n7
  refine call_ (Barrier_void _ w7 (hZ.new n27)) ?_
  rintro e w8 ⟨rfl, n8⟩
  refine ⟨_, rfl, ?_⟩
  have n28 := n27.trans n8
  refine call_ (Trip_void none at_ w8 (hN _)) ?_
  rintro e w9 ⟨rfl, rfl⟩
  refine ⟨_, rfl, ?_⟩
  refine call_ (Trip_void _ at_ w9 (hZ.new n28)) ?_
  rintro e w8 ⟨rfl, rfl⟩
  refine ⟨_, rfl, ?_⟩
  refine call_ (Crash_void none none 0 0 w8 (hN _)) ?_
  rintro e w9 ⟨rfl, rfl⟩
  refine ⟨_, rfl, ?_⟩
  refine call_ (Crash_void _ none 0 0 w9 (hZ.new n28)) ?_
  rintro e w8 ⟨rfl, rfl⟩
  refine ⟨_, rfl, ?_⟩
  refine call_ (Count_void none w8 (hN _)) ?_
  rintro e w9 ⟨rfl, rfl⟩
  refine ⟨_, rfl, ?_⟩
  refine call_ (Count_void _ w9 (hZ.new n28)) ?_
  rintro e w8 ⟨rfl, rfl⟩
  refine ⟨_, rfl, ?_⟩
  refine call_ (Moves_void none w8 (hN _)) ?_
  rintro e w9 ⟨rfl, rfl⟩
  refine ⟨_, rfl, ?_⟩
  refine call_ (Moves_void _ w9 (hZ.new n28)) ?_
  rintro e w8 ⟨rfl, rfl⟩
  refine ⟨_, rfl, ?_⟩
  refine call_ (Cached_void none w8 (hN _)) ?_
  rintro e w9 ⟨rfl, rfl⟩
  refine ⟨_, rfl, ?_⟩
  refine call_ (Cached_void _ w9 (hZ.new n28)) ?_
  rintro e w8 ⟨rfl, rfl⟩
  refine ⟨_, rfl, ?_⟩
  refine call_ (Dump_void none w8 (hN _)) ?_
  rintro e w9 ⟨A9, c9, rfl, n9⟩
  refine ⟨_, rfl, ?_⟩
  refine call_ (Dump_void _ w9 (hZ.new (n28.trans n9))) ?_
  rintro e w10 ⟨A10, c10, rfl, n10⟩
  exact ⟨_, rfl, rfl, ((n0.trans nz).trans (n28.trans n9)).trans n10⟩
end Go.Proofs.YtgfdpojpcpgddaaDoor.Disk

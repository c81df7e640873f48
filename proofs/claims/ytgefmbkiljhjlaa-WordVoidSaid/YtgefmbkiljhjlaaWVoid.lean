/- The package word, walked: what a reader and a writer do that no call made. -/
import Derived.Test.YtgefmbkiljhjlaaWWorks
namespace Go.Proofs.Ytgefmbkiljhjlaa.Word
open Go Go.Proofs.Ytgefmbkiljhjlaa Go.Proofs.Ytgefmbkiljhjlaa.Eng Go.Proofs
set_option maxRecDepth 10000

theorem look_void (p : Option Addr) (n : Int) (may : Bool) (w : World) (h : Is w p false) :
    Calls Try.prog 41 #[.pointer p, .int .i64 n, .bool may] w fun e w' => e = .returned (.int .i64 1) ∧ w' = w := by
  refine enter ok Try.func41 rfl rfl rfl ?_
  refine call_ (ris_ok p false w h) ?_
  rintro e w' ⟨rfl, rfl⟩
  exact ⟨_, rfl, rfl, rfl⟩
theorem U_void (p : Option Addr) (k : Int) (w : World) (h : Is w p false) :
    Calls Try.prog 15 #[.pointer p, .int .i64 k] w fun e w' => e = .returned (.tuple #[.int .i64 0, .int .i64 1]) ∧ w' = w := by
  refine enter ok Try.func15 rfl rfl rfl ?_
  refine call_ (wide_ok k w) ?_
  rintro e w' ⟨rfl, rfl⟩
  refine ⟨_, rfl, ?_⟩
  refine call_ (look_void p k (wide k) w' h) ?_
  rintro e w1 ⟨rfl, rfl⟩
  exact ⟨_, rfl, rfl, rfl⟩
theorem S_void (p : Option Addr) (k : Int) (w : World) (h : Is w p false) :
    Calls Try.prog 16 #[.pointer p, .int .i64 k] w fun e w' => e = .returned (.tuple #[.int .i64 0, .int .i64 1]) ∧ w' = w := by
  refine enter ok Try.func16 rfl rfl rfl ?_
  refine call_ (wide_ok k w) ?_
  rintro e w' ⟨rfl, rfl⟩
  refine ⟨_, rfl, ?_⟩
  refine call_ (look_void p k (wide k) w' h) ?_
  rintro e w1 ⟨rfl, rfl⟩
  exact ⟨_, rfl, rfl, rfl⟩
theorem RBytes_void (p : Option Addr) (w : World) (h : Is w p false) :
    Calls Try.prog 25 #[.pointer p, .int .i64 0] w fun e w' => e = .returned (.tuple #[.slice none 0 0, .int .i64 1]) ∧ w' = w := by
  refine enter ok Try.func25 rfl rfl rfl ?_
  refine call_ (look_void p 0 true w h) ?_
  rintro e w1 ⟨rfl, rfl⟩
  exact ⟨_, rfl, rfl, rfl⟩
theorem At_void (p : Option Addr) (w : World) (h : Is w p false) : Calls Try.prog 28 #[.pointer p] w fun e w' => e = .returned (.int .i64 0) ∧ w' = w := by
  refine enter ok Try.func28 rfl rfl rfl ?_
  refine call_ (ris_ok p false w h) ?_
  rintro e w' ⟨rfl, rfl⟩
  exact ⟨_, rfl, rfl, rfl⟩
theorem Left_void (p : Option Addr) (w : World) (h : Is w p false) : Calls Try.prog 22 #[.pointer p] w fun e w' => e = .returned (.int .i64 0) ∧ w' = w := by
  refine enter ok Try.func22 rfl rfl rfl ?_
  refine call_ (ris_ok p false w h) ?_
  rintro e w' ⟨rfl, rfl⟩
  exact ⟨_, rfl, rfl, rfl⟩
theorem Len_void (p : Option Addr) (w : World) (h : Is w p false) : Calls Try.prog 20 #[.pointer p] w fun e w' => e = .returned (.int .i64 0) ∧ w' = w := by
  refine enter ok Try.func20 rfl rfl rfl ?_
  refine call_ (wis_ok p false w h) ?_
  rintro e w' ⟨rfl, rfl⟩
  exact ⟨_, rfl, rfl, rfl⟩
theorem All_void (p : Option Addr) (w : World) (h : Is w p false) : Calls Try.prog 21 #[.pointer p] w fun e w' => e = .returned (.slice none 0 0) ∧ w' = w := by
  refine enter ok Try.func21 rfl rfl rfl ?_
  refine call_ (wis_ok p false w h) ?_
  rintro e w' ⟨rfl, rfl⟩
  exact ⟨_, rfl, rfl, rfl⟩
theorem WBytes_void (p : Option Addr) (C : Option Addr) (n c : Nat) (w : World) (h : Is w p false) : Calls Try.prog 31 #[.pointer p, .slice C n c] w fun e w' => e = .returned (.int .i64 1) ∧ w' = w := by
  refine enter ok Try.func31 rfl rfl rfl ?_
  refine call_ (wis_ok p false w h) ?_
  rintro e w' ⟨rfl, rfl⟩
  exact ⟨_, rfl, rfl, rfl⟩
theorem Patch_void (p : Option Addr) (a k n : Int) (w : World) (h : Is w p false) : Calls Try.prog 32 #[.pointer p, .int .i64 a, .int .i64 k, .int .i64 n] w fun e w' => e = .returned (.int .i64 1) ∧ w' = w := by
  refine enter ok Try.func32 rfl rfl rfl ?_
  refine call_ (wis_ok p false w h) ?_
  rintro e w' ⟨rfl, rfl⟩
  exact ⟨_, rfl, rfl, rfl⟩
theorem Is.new {w w' : World} {p : Option Addr} {b : Bool} (h : Is w p b) (n : New w w') : Is w' p b := by
  rcases h with h | ⟨g, h, hc⟩
  · exact .inl h
  · exact .inr ⟨g, h, n.cell hc⟩
theorem all_void (p : Option Addr) (k : Int) (sign : Bool) (C : Option Addr) (n c : Nat) (w : World) (h : Is w p false) : Calls Try.prog 43 #[.pointer p, .int .i64 k, .bool sign, .slice C n c] w fun e w' => e = .returned (.int .i64 1) ∧ New w w' := by
  refine enter ok Try.func43 rfl rfl rfl ?_
  have n2 : New w ((w.alloc (.cells #[.int .i64 k] 3)).alloc (.cells #[.bool sign] 4)) := (New.alloc _ _).trans (New.alloc _ _)
  refine call_ (wis_ok p false ((w.alloc (.cells #[.int .i64 k] 3)).alloc (.cells #[.bool sign] 4)) (h.new n2)) ?_
  rintro e w' ⟨rfl, rfl⟩
  exact ⟨_, rfl, rfl, n2⟩
theorem WU_void (p : Option Addr) (k : Int) (C : Option Addr) (n c : Nat) (w : World) (h : Is w p false) : Calls Try.prog 19 #[.pointer p, .int .i64 k, .slice C n c] w fun e w' => e = .returned (.int .i64 1) ∧ New w w' := by
  refine enter ok Try.func19 rfl rfl rfl ?_
  refine call_ (all_void p k false C n c w h) ?_
  rintro e w' ⟨rfl, h2⟩
  exact ⟨_, rfl, rfl, h2⟩
theorem WS_void (p : Option Addr) (k : Int) (C : Option Addr) (n c : Nat) (w : World) (h : Is w p false) : Calls Try.prog 18 #[.pointer p, .int .i64 k, .slice C n c] w fun e w' => e = .returned (.int .i64 1) ∧ New w w' := by
  refine enter ok Try.func18 rfl rfl rfl ?_
  refine call_ (all_void p k true C n c w h) ?_
  rintro e w' ⟨rfl, h2⟩
  exact ⟨_, rfl, rfl, h2⟩

theorem WordVoid_ok (cs : Array Value) (w : World) :
    Calls Try.prog 7 #[.agg cs] w fun e w' => e = .returned (.bool true) ∧ New w w' := by
  refine enter ok Try.func7 rfl rfl rfl ?_
  have nb := New.alloc w (.cells cs 45)
  refine call_ (works_ok (w.alloc (.cells cs 45))) ?_
  rintro e w0 ⟨b0, rfl, rfl, n0⟩
  replace n0 := nb.trans n0
  refine ⟨_, rfl, ?_⟩
  have hN : ∀ w', Is w' none false := fun _ => .inl ⟨rfl, rfl⟩
  have ny := New.alloc w0 (.cells #[.slice none 0 0, .int .i64 0, .bool false] 61)
  have hY : Is (w0.alloc (.cells #[.slice none 0 0, .int .i64 0, .bool false] 61)) (some ⟨w0.heap.size, 0, none⟩) false :=
    .inr ⟨_, rfl, by rw [cell_of_row _ _ 2 _ _ _ (heap_alloc_new w0 _)]; rfl⟩
  have nz := New.alloc (w0.alloc (.cells #[.slice none 0 0, .int .i64 0, .bool false] 61)) (.cells #[.slice none 0 0, .int .i64 0, .bool false] 62)
  have hZ : Is ((w0.alloc (.cells #[.slice none 0 0, .int .i64 0, .bool false] 61)).alloc (.cells #[.slice none 0 0, .int .i64 0, .bool false] 62)) (some ⟨(w0.alloc (.cells #[.slice none 0 0, .int .i64 0, .bool false] 61)).heap.size, 0, none⟩) false :=
    .inr ⟨_, rfl, by rw [cell_of_row _ _ 2 _ _ _ (heap_alloc_new _ _)]; rfl⟩
  replace hY := hY.new nz
  have n1 := (n0.trans ny).trans nz
  refine call_ (U_void none 1 ((w0.alloc (.cells #[.slice none 0 0, .int .i64 0, .bool false] 61)).alloc (.cells #[.slice none 0 0, .int .i64 0, .bool false] 62)) (hN _)) ?_
  rintro e w1 ⟨rfl, hw1⟩
  rw [← hw1] at hY hZ n1
  clear hw1 nz ny
  refine ⟨_, rfl, ?_⟩
  refine call_ (S_void _ 1 w1 hY) ?_
  rintro e w2 ⟨rfl, rfl⟩
  refine ⟨_, rfl, ?_⟩
  refine call_ (RBytes_void none w2 (hN _)) ?_
  rintro e w3 ⟨rfl, rfl⟩
  refine ⟨_, rfl, ?_⟩
  have a4 := New.alloc w3 (.cells #[.int .i64 1] 3)
  refine call_ (WU_void none 1 (some ⟨w3.heap.size, 0, none⟩) 1 1 (w3.alloc (.cells #[.int .i64 1] 3)) (hN _)) ?_
  rintro e w4 ⟨rfl, m4⟩
  replace m4 := a4.trans m4
  refine ⟨_, rfl, ?_⟩
  have a5 := New.alloc w4 (.cells #[.int .i64 1] 3)
  refine call_ (WS_void _ 1 (some ⟨w4.heap.size, 0, none⟩) 1 1 (w4.alloc (.cells #[.int .i64 1] 3)) (hZ.new (m4.trans a5))) ?_
  rintro e w5 ⟨rfl, m5⟩
  replace m5 := m4.trans (a5.trans m5)
  refine ⟨_, rfl, ?_⟩
  refine call_ (WBytes_void none none 0 0 w5 (hN _)) ?_
  rintro e w6 ⟨rfl, rfl⟩
  refine ⟨_, rfl, ?_⟩
  have a7 := m5.trans (New.alloc w6 (.cells #[.int .u8 1] 5))
  refine call_ (WBytes_void _ (some ⟨w6.heap.size, 0, none⟩) 1 1 (w6.alloc (.cells #[.int .u8 1] 5)) (hZ.new a7)) ?_
  rintro e w7 ⟨rfl, hw7⟩
  rw [← hw7] at a7
  clear hw7
  refine ⟨_, rfl, ?_⟩
  refine call_ (Patch_void none 0 1 1 w7 (hN _)) ?_
  rintro e w8 ⟨rfl, rfl⟩
  refine ⟨_, rfl, ?_⟩
  refine call_ (Patch_void _ 0 1 1 w8 (hZ.new a7)) ?_
  rintro e w9 ⟨rfl, rfl⟩
  refine ⟨_, rfl, ?_⟩
  refine call_ (At_void none w9 (hN _)) ?_
  rintro e w' ⟨rfl, rfl⟩
  refine ⟨_, rfl, ?_⟩
  refine call_ (At_void _ w' (hY.new a7)) ?_
  rintro e w9 ⟨rfl, rfl⟩
  refine ⟨_, rfl, ?_⟩
  refine call_ (Left_void none w9 (hN _)) ?_
  rintro e w' ⟨rfl, rfl⟩
  refine ⟨_, rfl, ?_⟩
  refine call_ (Left_void _ w' (hY.new a7)) ?_
  rintro e w9 ⟨rfl, rfl⟩
  refine ⟨_, rfl, ?_⟩
  refine call_ (Len_void none w9 (hN _)) ?_
  rintro e w' ⟨rfl, rfl⟩
  refine ⟨_, rfl, ?_⟩
  refine call_ (Len_void _ w' (hZ.new a7)) ?_
  rintro e w9 ⟨rfl, rfl⟩
  refine ⟨_, rfl, ?_⟩
  refine call_ (All_void none w9 (hN _)) ?_
  rintro e w' ⟨rfl, rfl⟩
  refine ⟨_, rfl, ?_⟩
  refine call_ (All_void _ w' (hZ.new a7)) ?_
  rintro e w9 ⟨rfl, rfl⟩
  exact ⟨_, rfl, rfl, n1.trans a7⟩
end Go.Proofs.Ytgefmbkiljhjlaa.Word

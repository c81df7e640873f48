/- The package word: numbers and bytes put behind a writer's, as later packages do it. -/
import Derived.Test.YteanhakkceancaaWWorks
import Derived.Test.YteanhakkceancaaWRef3
import Derived.Test.YteanhakkceancaaFmt
namespace Go.Proofs.Yteanhakkceancaa.Word
open Go Go.Proofs.Yteanhakkceancaa Go.Proofs.Yteanhakkceancaa.Eng Go.Proofs Go.Proofs.Yteanhakkceancaa.Fmt
set_option maxRecDepth 10000

/-- What a writer's act leaves: its bytes, and all else as it was. -/
structure Wk (w : World) (base g : Nat) (v : Value) (w' : World) (v' : Value) (bs : List UInt8) : Prop where
  wr : Wr w' base g v' bs
  mod : Mod (WS g v) w w'
  st : stayed w v v'
theorem Wk.refl {w : World} {base g : Nat} {v : Value} {bs : List UInt8} (h : Wr w base g v bs) : Wk w base g v w v bs := ⟨h, (New.refl w).mod, stayed.refl w v⟩
theorem Wk.new {w w' w2 : World} {base g : Nat} {v v' : Value} {bs : List UInt8} (h : Wk w base g v w' v' bs) (k : New w' w2) : Wk w base g v w2 v' bs :=
  ⟨h.wr.new k, Mod.trans h.mod k (fun _ _ e => False.elim e), h.st⟩
theorem Wk.then {w w1 w2 : World} {base g : Nat} {v v1 v2 : Value} {bs bs2 : List UInt8} (h : Wk w base g v w1 v1 bs) (k : Wk w1 base g v1 w2 v2 bs2) : Wk w base g v w2 v2 bs2 := by
  refine ⟨k.wr, Mod.trans h.mod k.mod ?_, stayed.trans h.st h.mod.size k.st⟩
  rintro b hb (e | e)
  · exact .inl e
  · rcases h.st b e.symm with h1 | h1
    · exact .inr h1.symm
    · omega
theorem Wr.vlt {w : World} {base g : Nat} {v : Value} {bs : List UInt8} (h : Wr w base g v bs) {b : Nat} (hb : v.ownBlock = some b) : base ≤ b ∧ b < w.heap.size := h.own.lt b hb
/-- Numbers of an own block are none of the writer's. -/
theorem Wr.off1 {w : World} {base g : Nat} {v : Value} {bs : List UInt8} (h : Wr w base g v bs) {zs : List Int} : ∀ a : Addr, some (⟨w.heap.size, 0, none⟩ : Addr) = some a → zs ≠ [] → ¬ WS g v a.block := by
  intro a ha _
  cases ha
  rintro (e | e)
  · exact absurd (Eq.symm e) (Nat.ne_of_lt h.lt)
  · exact absurd (h.vlt e.symm).2 (Nat.lt_irrefl _)
theorem good_one {k : Nat} {sign : Bool} {z : Int} (hk : wide (k : Int) = true) (hf : fits (k : Int) z sign = true) : good k sign [z] = true := by
  unfold good
  rw [hk, List.any_cons, hf]
  rfl
theorem good_two {k : Nat} {sign : Bool} {a b : Int} (hk : wide (k : Int) = true) (ha : fits (k : Int) a sign = true) (hb : fits (k : Int) b sign = true) : good k sign [a, b] = true := by
  unfold good
  rw [hk, List.any_cons, List.any_cons, ha, hb]
  rfl
theorem two_i64 (w : World) (a b : Int) : Row (w.alloc (.cells #[.int .i64 a, .int .i64 b] 3)) (some ⟨w.heap.size, 0, none⟩) (ivs [a, b]) := row_alloc w [.int .i64 a, .int .i64 b] _ _
theorem wk_of {w w' : World} {o : Obj} {base g : Nat} {v v' : Value} {bs : List UInt8} (h : Wr w base g v bs) {qs : List UInt8} (h1 : Wr w' base g v' qs) (h2 : Mod (WS g v) (w.alloc o) w') (h3 : stayed (w.alloc o) v v') : Wk w base g v w' v' qs :=
  (Wk.refl h).new (New.alloc w o) |>.then ⟨h1, h2, h3⟩
theorem WU1 (base g : Nat) (v : Value) (bs : List UInt8) (k : Nat) (z : Int) (w : World) (h : Wr w base g v bs) (hk : wide (k : Int) = true) (hf : fits (k : Int) z false = true) (hm : bs.length ≤ 1000000000) (hb : base ≤ w.heap.size) :
    Calls Try.prog 60 #[.pointer (some ⟨g, 0, none⟩), .int .i64 (k : Int), .slice (some ⟨w.heap.size, 0, none⟩) 1 1] (w.alloc (.cells #[.int .i64 z] 3)) fun e w' => e = .returned (.int .i64 0) ∧ ∃ v', Wk w base g v w' v' (bs ++ enc k z) := by
  have a1 := New.alloc w (.cells #[.int .i64 z] 3)
  refine (WU_ok base g v bs k (some ⟨w.heap.size, 0, none⟩) 1 1 [z] _ (h.new a1) (one_i64 w z) rfl h.off1 (by simp; omega) (Nat.le_trans hb a1.size)).mono ?_
  rintro e w' ⟨rfl, v', h1, h2, h3⟩
  have hg := good_one hk hf
  refine ⟨by unfold allErr; rw [if_pos hg], v', ?_⟩
  unfold allBs at h1
  rw [if_pos hg] at h1
  have := wk_of h h1 h2 h3
  simpa using this
theorem WS1 (base g : Nat) (v : Value) (bs : List UInt8) (k : Nat) (z : Int) (w : World) (h : Wr w base g v bs) (hk : wide (k : Int) = true) (hf : fits (k : Int) z true = true) (hm : bs.length ≤ 1000000000) (hb : base ≤ w.heap.size) :
    Calls Try.prog 59 #[.pointer (some ⟨g, 0, none⟩), .int .i64 (k : Int), .slice (some ⟨w.heap.size, 0, none⟩) 1 1] (w.alloc (.cells #[.int .i64 z] 3)) fun e w' => e = .returned (.int .i64 0) ∧ ∃ v', Wk w base g v w' v' (bs ++ enc k z) := by
  have a1 := New.alloc w (.cells #[.int .i64 z] 3)
  refine (WS_ok base g v bs k (some ⟨w.heap.size, 0, none⟩) 1 1 [z] _ (h.new a1) (one_i64 w z) rfl h.off1 (by simp; omega) (Nat.le_trans hb a1.size)).mono ?_
  rintro e w' ⟨rfl, v', h1, h2, h3⟩
  have hg := good_one hk hf
  refine ⟨by unfold allErr; rw [if_pos hg], v', ?_⟩
  unfold allBs at h1
  rw [if_pos hg] at h1
  have := wk_of h h1 h2 h3
  simpa using this
theorem WU2 (base g : Nat) (v : Value) (bs : List UInt8) (k : Nat) (a b : Int) (w : World) (h : Wr w base g v bs) (hk : wide (k : Int) = true) (ha : fits (k : Int) a false = true) (hb' : fits (k : Int) b false = true) (hm : bs.length ≤ 1000000000) (hb : base ≤ w.heap.size) :
    Calls Try.prog 60 #[.pointer (some ⟨g, 0, none⟩), .int .i64 (k : Int), .slice (some ⟨w.heap.size, 0, none⟩) 2 2] (w.alloc (.cells #[.int .i64 a, .int .i64 b] 3)) fun e w' => e = .returned (.int .i64 0) ∧ ∃ v', Wk w base g v w' v' (bs ++ (enc k a ++ enc k b)) := by
  have a1 := New.alloc w (.cells #[.int .i64 a, .int .i64 b] 3)
  refine (WU_ok base g v bs k (some ⟨w.heap.size, 0, none⟩) 2 2 [a, b] _ (h.new a1) (two_i64 w a b) rfl h.off1 (by simp; omega) (Nat.le_trans hb a1.size)).mono ?_
  rintro e w' ⟨rfl, v', h1, h2, h3⟩
  have hg := good_two hk ha hb'
  refine ⟨by unfold allErr; rw [if_pos hg], v', ?_⟩
  unfold allBs at h1
  rw [if_pos hg] at h1
  have := wk_of h h1 h2 h3
  simpa using this
theorem WB1 (base g : Nat) (v : Value) (bs : List UInt8) (C : Option Addr) (q qc : Nat) (ys : List UInt8) (w : World) (h : Wr w base g v bs) (hy : Row w C (bvs ys)) (hq : q = ys.length) (hm : bs.length + ys.length ≤ 1000000000) (hb : base ≤ w.heap.size) :
    Calls Try.prog 61 #[.pointer (some ⟨g, 0, none⟩), .slice C q qc] w fun e w' => e = .returned (.int .i64 0) ∧ ∃ v', Wk w base g v w' v' (bs ++ ys) := by
  refine (WBytes_ok base g v bs C q qc ys w h hy hq (by omega) hb).mono ?_
  rintro e w' ⟨rfl, v', h1, h2, h3⟩
  exact ⟨rfl, v', h1, h2, h3⟩
end Go.Proofs.Yteanhakkceancaa.Word

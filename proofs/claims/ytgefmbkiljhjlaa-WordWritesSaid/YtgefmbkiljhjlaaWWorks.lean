/- The example of the package word, and the statement WordSigns, walked. -/
import Derived.Test.YtgefmbkiljhjlaaWMore
import Derived.Test.YtgefmbkiljhjlaaBase
namespace Go.Proofs.Ytgefmbkiljhjlaa.Word
open Go Go.Proofs.Ytgefmbkiljhjlaa Go.Proofs.Ytgefmbkiljhjlaa.Eng Go.Proofs
set_option maxRecDepth 10000

theorem one_i64 (w : World) (z : Int) : Row (w.alloc (.cells #[.int .i64 z] 3)) (some ⟨w.heap.size, 0, none⟩) (ivs [z]) := row_alloc w [.int .i64 z] _ _

theorem works_ok (w : World) : Calls Try.prog 12 #[] w fun e w' => ∃ b, b = true ∧ e = .returned (.bool b) ∧ New w w' := by
  refine enter ok Try.func12 rfl rfl rfl ?_
  refine call_ (Make_ok w) ?_
  rintro e w0 ⟨rfl, wr0, n0, z0⟩
  refine ⟨_, rfl, ?_⟩
  have a1 := New.alloc w0 (.cells #[.int .i64 258] 3)
  have hU := WU_ok w.heap.size w.heap.size (.slice none 0 0) [] 2 (some ⟨w0.heap.size, 0, none⟩) 1 1 [258] _ (wr0.new a1) (one_i64 w0 258) rfl (by intro a ha _; cases ha; rintro (e | e) <;> simp [Value.ownBlock] at e; omega) (by simp) (by have := n0.size; simp; omega)
  have b1 : allBs [] 2 false [258] = [1, 2] := by decide
  have q1 : allErr 2 false [258] = 0 := by decide
  rw [b1] at hU
  generalize allErr 2 false [258] = x1 at hU q1
  refine call_ hU ?_
  rintro e w1 ⟨rfl, v1, wr1, m1, s1⟩
  refine ⟨_, rfl, ?_⟩
  subst q1
  have t1 : New w w1 := Mod.trans (n0.trans a1) m1 (by
    rintro i hi (e | e)
    · omega
    · simp [Value.ownBlock] at e)
  have f1 : ∀ b, v1.ownBlock = some b → w.heap.size ≤ b ∧ b < w1.heap.size := fun b hb => wr1.own.lt b hb
  have a2 := New.alloc w1 (.cells #[.int .i64 (-1)] 3)
  have hS := WS_ok w.heap.size w.heap.size v1 [1, 2] 1 (some ⟨w1.heap.size, 0, none⟩) 1 1 [-1] _ (wr1.new a2) (one_i64 w1 (-1)) rfl
    (by intro a ha _; cases ha; rintro (e | e); exact absurd (Eq.symm e) (Nat.ne_of_lt wr1.lt); exact absurd (f1 _ e.symm).2 (Nat.lt_irrefl _)) (by simp) (by have := t1.size; simp; omega)
  have b2 : allBs [1, 2] 1 true [-1] = [1, 2, 255] := by decide
  have q2 : allErr 1 true [-1] = 0 := by decide
  rw [b2, q2] at hS
  refine call_ hS ?_
  rintro e w2 ⟨rfl, v2, wr2, m2, s2⟩
  refine ⟨_, rfl, ?_⟩
  have t2 : New w w2 := Mod.trans (t1.trans a2) m2 (by
    rintro i hi (e | e)
    · omega
    · have := (f1 _ e.symm).1; omega)
  refine call_ (All_ok _ _ v2 [1, 2, 255] w2 wr2 (by simp)) ?_
  rintro e w3 ⟨u3, rfl, own3, n3⟩
  obtain ⟨A3, c3, rfl, hc3, ht3, row3, hA3⟩ := own_slice own3
  refine ⟨_, rfl, ?_⟩
  refine call_ (Read_ok A3 c3 [1, 2, 255] w3 row3 hc3 ht3 (fun a ha => (hA3 a ha).2.1)) ?_
  rintro e w4 ⟨rfl, rd4, n4, z4⟩
  refine ⟨_, rfl, ?_⟩
  have hg := t2.size
  have hg3 := n3.size
  have hg4 := n4.size
  have g1 : get false [1, 2, 255] 0 2 = (258, 0, 2) := by decide
  have hU2 := U_ok w3.heap.size A3 c3 [1, 2, 255] 0 2 w4 rd4
  rw [g1] at hU2
  refine call_ hU2 ?_
  rintro e w5 ⟨rfl, rd5, m5⟩
  refine ⟨_, rfl, ?_⟩
  have g2 : get true [1, 2, 255] 2 1 = (-1, 0, 3) := by decide
  have hS2 := S_ok w3.heap.size A3 c3 [1, 2, 255] 2 1 w5 rd5
  rw [g2] at hS2
  refine call_ hS2 ?_
  rintro e w6 ⟨rfl, rd6, m6⟩
  refine ⟨_, rfl, ?_⟩
  have m46 : Mod (fun b => b = w3.heap.size) w4 w6 := Mod.trans m5 m6 fun _ _ h => h
  have hv2 := fun b hb => (wr2.own.lt b hb).2
  have hw2 := wr2.lt
  have wr6 : Wr w6 w.heap.size w.heap.size v2 [1, 2, 255] := (wr2.new (n3.trans n4)).mod m46 (by intro e; omega) (by intro b hb e; have := hv2 b hb; omega)
  refine call_ (All_ok _ _ v2 [1, 2, 255] w6 wr6 (by simp)) ?_
  rintro e w7 ⟨u7, rfl, own7, n7⟩
  obtain ⟨A7, c7, rfl, hc7, ht7, row7, hA7⟩ := own_slice own7
  refine ⟨_, rfl, ?_⟩
  have a8 := New.alloc w7 (.cells (bvs [1, 2, 255]).toArray 5)
  refine call_ (Base.SameBytes_ok A7 _ 3 c7 3 3 [1, 2, 255] [1, 2, 255] _ rfl rfl (row7.new a8) (row_alloc w7 _ _ _)) ?_
  rintro e w8 ⟨rfl, hw8⟩
  have rd8 : Rd w8 w3.heap.size A3 c3 [1, 2, 255] 3 := by rw [hw8]; exact (rd6.new n7).new a8
  have t8 : New w w8 := by
    rw [hw8]
    exact ((Mod.trans ((t2.trans n3).trans n4) m46 (by intro i hi e; omega)).new n7).new a8
  refine ⟨_, rfl, ?_⟩
  refine call_ (Left_ok w3.heap.size A3 c3 [1, 2, 255] 3 w8 rd8) ?_
  rintro e w9 ⟨rfl, n9⟩
  refine ⟨_, rfl, ?_⟩
  refine call_ (At_ok w3.heap.size A3 c3 [1, 2, 255] 3 w9 (rd8.new n9)) ?_
  rintro e w10 ⟨rfl, rfl⟩
  exact ⟨_, rfl, true, rfl, rfl, t8.trans n9⟩
end Go.Proofs.Ytgefmbkiljhjlaa.Word

/- The chapter's examples: larchlaw09.works. -/
import Derived.Test.YtcpeekeiflglpaaCSame
import Derived.Test.YtcpeekeiflglpaaBase
namespace Go.Proofs.Ytcpeekeiflglpaa.Code
open Go Go.Proofs.Ytcpeekeiflglpaa Go.Proofs.Ytcpeekeiflglpaa.Eng Go.Proofs Go.Proofs.Ytcpeekeiflglpaa.Word
set_option maxRecDepth 10000

theorem ls1 : erOf [4, 172] = 0 ∧ lsOf [4, 172] = [⟨0, 4, 0, 0, []⟩, ⟨1, 172, 0, 0, []⟩] := by decide +kernel
theorem ls2 : erOf [167, 0, 0] = 0 ∧ lsOf [167, 0, 0] = [⟨0, 167, 0, 0, []⟩] := by decide +kernel
theorem works_ok (w : World) : Calls Try.prog 28 #[] w fun e w' => e = .returned (.bool true) ∧ New w w' := by
  refine enter ok Try.func28 rfl rfl rfl ?_
  refine seq_assign ?_
  refine seq_cut (σ := (Option Addr × Nat × Nat) × Int) (fun t => [(1, .slice t.1.1 t.1.2.1 t.1.2.2), (2, .int .i64 t.2)]) (fun t w' => New w w' ∧ t.2 = 0 ∧ ∃ ts : List It, ts.map (·.1) = [⟨0, 4, 0, 0, []⟩, ⟨1, 172, 0, 0, []⟩] ∧ Ct w' t.1.1 ts ∧ t.1.2.1 = ts.length) ?_ ?_
  rotate_left
  · intro K hK
    have n1 := New.alloc w (.cells (bvs [4, 172]).toArray 5)
    refine call_ (Decode_ok (some ⟨w.heap.size, 0, none⟩) 2 2 [4, 172] (w.alloc (.cells (bvs [4, 172]).toArray 5)) rfl (row_alloc w (bvs [4, 172]) _ _) (by decide) (by decide)) ?_
    rintro e w2 ⟨ts, A, c, hts, rfl, ct, _, _, n2⟩
    refine ⟨_, rfl, ?_⟩
    rw [ls1.2] at hts
    exact hK ((A, ts.length, c), erOf [4, 172]) _ _ ⟨rfl, rfl, trivial⟩ ⟨n1.trans n2, ls1.1, ts, hts, ct, rfl⟩
  rintro ⟨⟨A1, m1, c1⟩, e1⟩ w1 fr1 ⟨n1, he1, ts1, hts1, ct1, hm1⟩
  dsimp only at he1 ct1 hm1
  refine seq_cut (σ := (Option Addr × Nat × Nat) × Int) (fun t => [(1, .slice A1 m1 c1), (2, .int .i64 e1), (3, .slice t.1.1 t.1.2.1 t.1.2.2), (4, .int .i64 t.2)]) (fun t w' => New w1 w' ∧ t.2 = 0 ∧ ∃ ts : List It, ts.map (·.1) = [⟨0, 167, 0, 0, []⟩] ∧ Ct w' t.1.1 ts ∧ t.1.2.1 = ts.length) ?_ ?_
  rotate_left
  · intro K hK
    have n2 := New.alloc w1 (.cells (bvs [167, 0, 0]).toArray 5)
    refine call_ (Decode_ok (some ⟨w1.heap.size, 0, none⟩) 3 3 [167, 0, 0] (w1.alloc (.cells (bvs [167, 0, 0]).toArray 5)) rfl (row_alloc w1 (bvs [167, 0, 0]) _ _) (by decide) (by decide)) ?_
    rintro e w3 ⟨ts, A, c, hts, rfl, ct, _, _, n3⟩
    refine ⟨_, rfl, ?_⟩
    rw [ls2.2] at hts
    exact hK ((A, ts.length, c), erOf [167, 0, 0]) _ _ ⟨rfl, rfl, rfl, rfl, trivial⟩ ⟨n2.trans n3, ls2.1, ts, hts, ct, rfl⟩
  rintro ⟨⟨A2, m2, c2⟩, e2⟩ w2 fr2 ⟨n2, he2, ts2, hts2, ct2, hm2⟩
  dsimp only at he2 ct2 hm2
  refine seq_cut (σ := (Option Addr × Nat × Nat) × Int) (fun t => [(1, .slice A1 m1 c1), (2, .int .i64 e1), (3, .slice A2 m2 c2), (4, .int .i64 e2), (5, .slice t.1.1 t.1.2.1 t.1.2.2), (6, .int .i64 t.2)]) (fun t w' => New w2 w' ∧ t.2 = 0 ∧ Row w' t.1.1 (bvs [4, 172]) ∧ t.1.2.1 = 2) ?_ ?_
  rotate_left
  · intro K hK
    have hl1 : ts1.length = 2 := by
      have := congrArg List.length hts1
      simpa using this
    refine call_ (Encode_ok A1 m1 c1 ts1 w2 hm1 (ct1.new n2) (by omega)) ?_
    rintro e w3 ⟨hout, n3⟩
    have henc : encR (ts1.map (·.1)) = some [4, 172] := encR_good (bs := [4, 172]) (by rw [hts1, ← ls1.2]; exact (er_zero.1 ls1.1).2) (by decide)
    rw [henc] at hout
    obtain ⟨A, c, rfl, row, _, _⟩ := hout
    refine ⟨_, rfl, ?_⟩
    exact hK ((A, 2, c), 0) _ _ ⟨rfl, rfl, rfl, rfl, rfl, rfl, trivial⟩ ⟨n3, rfl, row, rfl⟩
  rintro ⟨⟨A3, m3, c3⟩, e3⟩ w3 fr3 ⟨n3, he3, row3, hm3⟩
  dsimp only at he3 row3 hm3
  have k3 := (n1.trans n2).trans n3
  refine if_p (fun _ => ?_) (fun h => absurd he1 h)
  -- the same
  let two : List It := [(⟨0, 4, 0, 0, []⟩, nilC), (⟨1, 172, 0, 0, []⟩, nilC)]
  have n4 := New.alloc w3 (.cells (itF two).toArray 62)
  have ctw : Ct (w3.alloc (.cells (itF two).toArray 62)) (some ⟨w3.heap.size, 0, none⟩) two := by
    refine ⟨row_alloc w3 (itF two) _ _, fun t ht => ?_⟩
    simp only [two, List.mem_cons, List.not_mem_nil, or_false] at ht
    rcases ht with rfl | rfl <;> exact ⟨⟨none, 0, rfl, Row.nil _ _⟩, by simp⟩
  have hl1 : ts1.length = 2 := by
    have := congrArg List.length hts1
    simpa using this
  refine call_ (SameInstrs_ok A1 (some ⟨w3.heap.size, 0, none⟩) m1 2 c1 2 ts1 two (w3.alloc (.cells (itF two).toArray 62)) hm1 rfl (((ct1.new n2).new n3).new n4) ctw (by rw [hts1]; rfl) (by omega)) ?_
  rintro e w5 ⟨rfl, n5⟩
  refine ⟨_, rfl, ?_⟩
  have k5 := (k3.trans n4).trans n5
  refine call_ (Plain_ok 0 4 0 0 nilC w5 (by decide) rfl) ?_
  rintro e w6 ⟨rfl, n6⟩
  refine ⟨_, rfl, ?_⟩
  have k6 := k5.trans n6
  refine if_p (fun _ => ?_) (fun h => absurd he2 h)
  have hl2 : ts2.length = 1 := by
    have := congrArg List.length hts2
    simpa using this
  have ct6 := ((((ct2.new n3).new n4).new n5).new n6)
  refine if_p (fun _ => ?_) (fun h => absurd (show (m2 : Int) = 1 by omega) h)
  obtain ⟨a2, ea2, hc2⟩ := itF_row ct6.row (show 0 < ts2.length by omega)
  have hx : ts2[0].1 = ⟨0, 167, 0, 0, []⟩ := by
    have := congrArg (fun l => l[0]?) hts2
    simpa [hl2] using this
  rw [hx] at hc2
  refine And.intro (by omega) (And.intro (by omega) ?_)
  refine some_at ea2 ?_
  refine Exists.intro 167 (And.intro (hc2 1 _ rfl) ?_)
  refine And.intro (by omega) (And.intro (by omega) ?_)
  refine some_at ea2 ?_
  refine Exists.intro 0 (And.intro (hc2 2 _ rfl) ?_)
  refine if_p (fun _ => ?_) (fun h => absurd he3 h)
  have n7 := New.alloc w6 (.cells (bvs [4, 172]).toArray 5)
  refine call_ (Base.SameBytes_ok A3 (some ⟨w6.heap.size, 0, none⟩) m3 c3 2 2 [4, 172] [4, 172] (w6.alloc (.cells (bvs [4, 172]).toArray 5)) hm3 rfl ((((row3.new n4).new n5).new n6).new n7) (row_alloc w6 (bvs [4, 172]) _ _)) ?_
  rintro e w8 ⟨rfl, rfl⟩
  refine ⟨_, rfl, ?_⟩
  exact ⟨rfl, k6.trans n7⟩
end Go.Proofs.Ytcpeekeiflglpaa.Code

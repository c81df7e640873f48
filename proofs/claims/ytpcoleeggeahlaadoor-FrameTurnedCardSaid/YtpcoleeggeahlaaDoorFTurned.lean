/- The statement FrameTurned, walked. -/
import Derived.Test.YtpcoleeggeahlaaDoorFWorks
import Derived.Test.YtpcoleeggeahlaaDoorFOpen
namespace Go.Proofs.YtpcoleeggeahlaaDoor.Frame
open Go Go.Proofs.YtpcoleeggeahlaaDoor Go.Proofs.YtpcoleeggeahlaaDoor.Eng Go.Proofs Go.Proofs.YtpcoleeggeahlaaDoor.Sum
set_option maxRecDepth 10000

theorem bvs_set' (bs : List UInt8) (k : Nat) (x : UInt8) : (bvs bs).set k (bv x) = bvs (bs.set k x) := by
  unfold bvs
  rw [List.map_set]
theorem scan_none {bs : List UInt8} (h : firstErr bs ≠ 0) : scan bs = [] := by
  unfold scan
  exact recs_stop (.inl (by rw [List.drop_zero]; exact h))
theorem FrameTurned_ok (r : Rec) (at_ : Int) (x : UInt8) (w : World) (ht : tbl w) :
    Calls Tryd.prog 3 #[recV r, .int .i64 at_, bv x] w fun e w' => e = .returned (.bool true) ∧ New w w' := by
  refine enter ok Tryd.func3 rfl rfl rfl ?_
  have n0 := New.alloc w (.cells #[.int .i64 r.e, .string ⟨r.d.toArray⟩] 23)
  have hb := heap_alloc_new w (.cells #[.int .i64 r.e, .string ⟨r.d.toArray⟩] 23)
  have hs0 : (w.alloc (.cells #[.int .i64 r.e, .string ⟨r.d.toArray⟩] 23)).heap.size = w.heap.size + 1 := by simp
  refine call_ (works_ok (w.alloc (.cells #[.int .i64 r.e, .string ⟨r.d.toArray⟩] 23)) (ht.new n0)) ?_
  rintro e w1 ⟨rfl, n1⟩
  refine ⟨_, rfl, ?_⟩
  have k1 := n0.trans n1
  refine loadN_row (vs := recC r) (fun k u hu => ?_) rfl ?_
  · rw [ad0, cell_of_row _ _ k _ _ _ (n1.blk hb)]
    simpa [recC] using hu
  refine call_ (Write_ok r w1 (ht.new k1)) ?_
  rintro e w2 ⟨v2, rfl, own2, n2⟩
  obtain ⟨A2, c2, rfl, hc2, hm2, row2, hA2⟩ := own_slice own2
  refine ⟨_, rfl, ?_⟩
  have k2 := k1.trans n2
  refine if_n (fun hne => ?_) (fun he => ?_)
  · have hbs : writeBs r = [] := by unfold writeBs; rw [if_neg hne]
    rw [hbs]
    refine if_no (decide_eq_false hne) ?_
    exact ⟨rfl, k2⟩
  replace he : writeErr r = 0 := he
  have hok := okR_of he
  have hbs : writeBs r = enc r := by unfold writeBs; rw [if_pos he]
  rw [hbs] at own2 hc2 row2 ⊢
  have hlen := enc_len r
  have hd := hok.d
  refine if_p (fun hx => ?_) (fun hx => ?_)
  · refine if_yes (decide_eq_true he) ?_
    exact ⟨rfl, k2⟩
  replace hx : ¬ (x.toNat : Int) = 0 := hx
  have hx0 : x ≠ 0 := fun e => hx (by rw [e]; rfl)
  have el : IntKind.i64.wrap (((enc r).length : Int) - 4) = ((r.d.length + 8 : Nat) : Int) := by rw [hlen, wrap_i64 (by omega) (by omega)]; omega
  have hA := Base.Among_ok at_ ((r.d.length + 8 : Nat) : Int) w2 (by omega)
  rw [← el] at hA
  refine call_ hA ?_
  rw [el]
  rintro e w3 ⟨rfl, rfl⟩
  refine ⟨_, rfl, ?_⟩
  obtain ⟨j0, j1⟩ := Base.among_lt (x := at_) (n := ((r.d.length + 8 : Nat) : Int)) (by omega)
  obtain ⟨k, hk⟩ : ∃ k : Nat, Base.among at_ ((r.d.length + 8 : Nat) : Int) = k := ⟨(Base.among at_ ((r.d.length + 8 : Nat) : Int)).toNat, by omega⟩
  rw [hk] at j0 j1 ⊢
  have ek : IntKind.i64.wrap (4 + (k : Int)) = ((4 + k : Nat) : Int) := by rw [wrap_i64 (by omega) (by omega)]; omega
  have hkl : 4 + k < (enc r).length := by omega
  have hfe := first_turned r hok (4 + k) x (by omega) hkl hx0
  generalize hE : enc r = E at *
  obtain ⟨g, c, hsl, hg, hgl, _⟩ := own_pos own2 (by omega)
  obtain ⟨rfl, rfl⟩ : A2 = some ⟨g, 0, none⟩ ∧ c2 = c := by
    injection hsl with e1 e2 e3
    exact ⟨e1, e3⟩
  have hcell := bvs_get E (4 + k) hkl
  obtain ⟨_, ha, hc⟩ := row2 _ _ hcell
  cases ha
  have hgd : E.getD (4 + k) 0 = E[4 + k] := by rw [List.getD_eq_getElem?_getD, List.getElem?_eq_getElem hkl]; rfl
  rw [hgd] at hfe
  have ex : (⟨g, 0, none⟩ : Addr).add ((IntKind.i64.wrap (4 + (k : Int))).toNat * 1) = ⟨g, 4 + k, none⟩ := by rw [ek, Nat.mul_one, Int.toNat_natCast, ad0]
  refine And.intro (by rw [ek]; omega) (And.intro (by rw [ek]; omega) ?_)
  refine Exists.intro (E[4 + k].toNat : Int) ?_
  refine And.intro (by rw [ex, ← ad0]; exact hc) ?_
  refine And.intro (by rw [ek]; omega) (And.intro (by rw [ek]; omega) ?_)
  obtain ⟨hc0, hf0, hst⟩ := own_store own2 (4 + k) (by rw [bvs_length]; exact hkl)
  obtain ⟨own4, m4⟩ := hst (bv (E[4 + k] ^^^ x))
  rw [bvs_set'] at own4
  have exor : Value.int .u8 (bits .xor .u8 (E[4 + k].toNat : Int) (x.toNat : Int)) = bv (E[4 + k] ^^^ x) := congrArg (Value.int .u8) (bits_xor8 E[4 + k].toBitVec x.toBitVec)
  refine And.intro ⟨_, by rw [ex]; exact hc0⟩ (And.intro (by rw [ex]; exact hf0) ?_)
  have hw4 : w3.setCell ((⟨g, 0, none⟩ : Addr).add ((IntKind.i64.wrap (4 + (k : Int))).toNat * 1)) (.int .u8 (bits .xor .u8 (E[4 + k].toNat : Int) (x.toNat : Int))) = w3.setCell ⟨g, 4 + k, none⟩ (bv (E[4 + k] ^^^ x)) := by rw [ex, exor]
  have k4 : New w (w3.setCell ⟨g, 4 + k, none⟩ (bv (E[4 + k] ^^^ x))) := Mod.trans k2 m4 (fun b hb e => by have := k1.size; omega)
  rw [← hw4] at own4 k4
  have hl4 : (E.set (4 + k) (E[4 + k] ^^^ x)).length = E.length := List.length_set
  generalize E.set (4 + k) (E[4 + k] ^^^ x) = Z at own4 hfe hl4
  obtain ⟨_, _, he4, hc4, hm4, row4, _⟩ := own_slice own4
  cases he4
  have hF := First_ok (some ⟨g, 0, none⟩) E.length c2 Z _ (ht.new k4) hl4.symm row4 hc4 hm4 (by omega)
  have hfr : firstRec Z = ⟨0, []⟩ := by unfold firstRec; rw [hfe]; rfl
  have hfs : firstSize Z = 0 := by unfold firstSize; rw [hfe]; rfl
  rw [hfr, hfs, hfe] at hF
  refine call_ hF ?_
  rintro e w5 ⟨rfl, n5⟩
  refine ⟨_, rfl, ?_⟩
  refine And.intro rfl ?_
  refine storeN_all (vs := recC ⟨0, []⟩) (arr := #[.int .i64 0, .string ⟨#[]⟩]) (t := 23) (heap_alloc_new w5 _) rfl (recC_one _) ?_
  intro w6 hb6 m6 _
  have n6 : New w5 w6 := Mod.trans (New.alloc w5 _) m6 (fun b hb e => by omega)
  have k6 := (k4.trans n5).trans n6
  have row6 := (row4.new n5).new n6
  have hS := Scan_ok (some ⟨g, 0, none⟩) E.length c2 Z w6 (ht.new k6) hl4.symm row6 hc4 hm4 (by omega)
  rw [scan_none (by rw [hfe]; decide)] at hS
  refine call_ hS ?_
  rintro e w7 ⟨v7, rfl, own7, n7⟩
  obtain ⟨A7, c7, rfl, _⟩ := own_slice own7
  refine ⟨_, rfl, ?_⟩
  refine loadN_row (vs := recC ⟨0, []⟩) (fun k u hu => ?_) rfl ?_
  · rw [ad0, cell_of_row _ _ k _ _ _ (n7.blk hb6)]
    simpa using hu
  change evStep _ _ _ _ _ _ _ _
  change evOp Tryd.prog T F _ _ _ _
  unfold evOp evPure
  dsimp only
  refine build_ (cells := [.int .i64 0, .string ⟨#[]⟩]) rfl rfl rfl rfl ?_
  change evStep _ _ _ _ _ _ _ _
  change evOp Tryd.prog T F _ _ _ _
  unfold evOp evPure
  dsimp only
  refine raw_value (agg_cmp (xs := (recC ⟨0, []⟩).toArray) (ys := #[.int .i64 0, .string ⟨#[]⟩]) ok rfl rfl rfl (by kernel_rfl) (by kernel_rfl) rfl rfl rfl true (.inl ⟨rfl, by kernel_rfl⟩) w7) ?_
  exact ⟨rfl, k6.trans n7⟩
end Go.Proofs.YtpcoleeggeahlaaDoor.Frame

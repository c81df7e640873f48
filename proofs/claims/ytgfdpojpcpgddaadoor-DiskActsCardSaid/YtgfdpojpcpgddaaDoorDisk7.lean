/- The package disk, walked: a fetch, a dump; disks that no call made. -/
import Derived.Test.YtgfdpojpcpgddaaDoorDisk6
namespace Go.Proofs.YtgfdpojpcpgddaaDoor.Disk
open Go Go.Proofs.YtgfdpojpcpgddaaDoor Go.Proofs.YtgfdpojpcpgddaaDoor.Eng Go.Proofs
set_option maxRecDepth 10000

def fetchErr (s : DS) (at_ : Int) : Int := if at_ < 0 ∨ (s.cs.length : Int) ≤ at_ then 2 else if s.gone = true then 10 else 0
def fetchBs (s : DS) (at_ : Int) : Sec := if fetchErr s at_ = 0 then (s.cs.getD at_.toNat ⟨[], []⟩).now else []
/-- A block of bytes that was made for an answer. -/
def Ans (w w' : World) (v : Value) (bs : List UInt8) : Prop := (v = .slice none 0 0 ∧ bs = []) ∨ ∃ b t, v = .slice (some ⟨b, 0, none⟩) bs.length bs.length ∧ w'.heap[b]? = some (.cells (bvs bs).toArray t (0, 0)) ∧ w.heap.size ≤ b
theorem Ans.row {w w' : World} {v : Value} {bs : List UInt8} (h : Ans w w' v bs) : ∃ A c, v = .slice A bs.length c ∧ Row w' A (bvs bs) ∧ ∀ a, A = some a → w.heap.size ≤ a.block ∧ a.block < w'.heap.size := by
  rcases h with ⟨rfl, rfl⟩ | ⟨b, t, rfl, hb, hge⟩
  · exact ⟨none, 0, rfl, Row.nil _ _, fun a ha => by cases ha⟩
  · refine ⟨_, _, rfl, fun j u hu => ⟨_, rfl, ?_⟩, fun a ha => ?_⟩
    · rw [ad0, cell_of_row _ _ _ _ _ _ hb]
      simpa using hu
    · cases ha
      exact ⟨hge, (Array.getElem?_eq_some_iff.1 hb).1⟩
theorem Fetch_ok (base g q : Nat) (vs : Nat → Value) (s : DS) (at_ : Int) (w : World) (h : Dk w base g q vs s) (hn0 : 0 < s.cs.length) (hn4 : s.cs.length ≤ 4096) :
    Calls Tryd.prog 22 #[.pointer (some ⟨g, 0, none⟩), .int .i64 at_] w fun e w' => ∃ v, e = .returned (.tuple #[v, .int .i64 (fetchErr s at_)]) ∧ Ans w w' v (fetchBs s at_) ∧ New w w' := by
  refine enter ok Tryd.func22 rfl rfl rfl ?_
  refine call_ (Count_ok base g q vs s w h) ?_
  rintro e w1 ⟨rfl, rfl⟩
  refine ⟨_, rfl, ?_⟩
  have no : ∀ x : Int, fetchErr s at_ = x → x ≠ 0 → ∃ v, Ending.returned (.tuple #[.slice none 0 0, .int .i64 x]) = .returned (.tuple #[v, .int .i64 (fetchErr s at_)]) ∧ Ans w1 w1 v (fetchBs s at_) ∧ New w1 w1 := by
    intro x hx hne
    refine ⟨_, by rw [hx], .inl ⟨rfl, ?_⟩, New.refl _⟩
    unfold fetchBs
    rw [hx, if_neg hne]
  refine if_p (fun h0 => absurd h0 (by omega)) (fun _ => ?_)
  refine if_p (fun h1 => ?_) (fun h1 => ?_)
  · exact no 2 (by unfold fetchErr; rw [if_pos (.inl h1)]) (by decide)
  refine if_p (fun h2 => ?_) (fun h2 => ?_)
  · exact no 2 (by unfold fetchErr; rw [if_pos (.inr h2)]) (by decide)
  refine Exists.intro s.gone ?_
  refine And.intro (by rw [ad0]; exact h.c3) ?_
  have hrange : ¬ (at_ < 0 ∨ (s.cs.length : Int) ≤ at_) := by omega
  refine if_ (fun hg => ?_) (fun hg => ?_)
  · exact no 10 (by unfold fetchErr; rw [if_neg hrange, if_pos hg]) (by decide)
  have he0 : fetchErr s at_ = 0 := by unfold fetchErr; rw [if_neg hrange, if_neg (by rw [hg]; simp)]
  obtain ⟨i, rfl⟩ : ∃ i : Nat, at_ = i := ⟨at_.toNat, by omega⟩
  have hil : i < s.cs.length := by omega
  have hca := h.each i _ (List.getElem?_eq_getElem hil)
  have hbs : fetchBs s i = s.cs[i].now := by
    unfold fetchBs
    rw [if_pos he0, Int.toNat_natCast, List.getD_eq_getElem?_getD, List.getElem?_eq_getElem hil]
    rfl
  rw [he0, hbs]
  have hnl := hca.ok.now
  have ex : (⟨q, 0, none⟩ : Addr).add ((i : Int).toNat * 257) = ⟨q, i * 257, none⟩ := by rw [Int.toNat_natCast, ad0]
  refine Exists.intro (some ⟨q, 0, none⟩) (Exists.intro s.cs.length (Exists.intro s.cs.length ?_))
  refine And.intro (by rw [ad0]; exact h.c0) ?_
  refine And.intro (by omega) (And.intro (by omega) ?_)
  have hnow := now_ok base q i _ _ w1 hca
  rw [← ex] at hnow
  refine call_ hnow ?_
  rintro e w2 ⟨rfl, n2⟩
  refine ⟨_, rfl, ?_⟩
  have n3 := n2.trans (New.alloc w2 (.cells (List.replicate 256 (Value.int .u8 0)).toArray 68))
  refine And.intro (by show (bvs s.cs[i].now).toArray.size = 256; simp [bvs_length, hnl]) ?_
  refine storeN_all (vs := bvs s.cs[i].now) (heap_alloc_new w2 (.cells (List.replicate 256 (Value.int .u8 0)).toArray 68)) (by simp [bvs_length, hnl]) (bvs_one _) ?_
  intro w4 hb4 m4 hs4
  refine thenF_ (seq_ (region_ ?_))
  change evStep _ _ _ _ _ _ _ _
  change evOp Tryd.prog T F _ _ _ _
  refine cut_arr_ (a := ⟨w2.heap.size, 0, none⟩) ok rfl rfl rfl rfl rfl (by decide) ?_
  have s2 := n2.size
  exact ⟨_, rfl, .inr ⟨w2.heap.size, _, by rw [hnl]; rfl, hb4, s2⟩, Mod.trans n3 m4 fun b hb e => by omega⟩

def dump (cs : List Cl) : List UInt8 := cs.flatMap Cl.now
theorem dump_take (cs : List Cl) (i : Nat) (h : i < cs.length) : dump (cs.take (i + 1)) = dump (cs.take i) ++ cs[i].now := by
  unfold dump
  rw [List.take_succ_eq_append_getElem h, List.flatMap_append]
  simp
theorem dump_len : ∀ (cs : List Cl), (∀ c ∈ cs, c.ok) → (dump cs).length = cs.length * 256
  | [], _ => rfl
  | c :: r, h => by
    unfold dump
    rw [List.flatMap_cons, List.length_append, (h c List.mem_cons_self).now, List.length_cons]
    have := dump_len r fun d hd => h d (List.mem_cons_of_mem _ hd)
    unfold dump at this
    omega
theorem Dk.oks {w : World} {base g q : Nat} {vs : Nat → Value} {s : DS} (h : Dk w base g q vs s) : ∀ c ∈ s.cs, c.ok := by
  intro c hc
  obtain ⟨i, hi, rfl⟩ := List.getElem_of_mem hc
  exact (h.each i _ (List.getElem?_eq_getElem hi)).ok
theorem Dump_ok (base g q : Nat) (vs : Nat → Value) (s : DS) (w : World) (h : Dk w base g q vs s) (hn4 : s.cs.length ≤ 4096) :
    Calls Tryd.prog 14 #[.pointer (some ⟨g, 0, none⟩)] w fun e w' => ∃ v, e = .returned v ∧ w'.ownsRow w.heap.size 5 1 v (dump s.cs).length (bvs (dump s.cs)) ∧ New w w' := by
  refine enter ok Tryd.func14 rfl rfl rfl ?_
  have hb0 := Lib.fresh_isBuffer 78 5 w
  have n1 := New.alloc w (.cells #[.slice none 0 0, .int .i64 0, .int .i8 0] 78)
  refine call_ (Count_ok base g q vs s (w.alloc (.cells #[.slice none 0 0, .int .i64 0, .int .i8 0] 78)) (h.new n1)) ?_
  rintro e w1 ⟨rfl, hw1⟩
  rw [← hw1] at hb0 n1
  clear hw1
  refine ⟨_, rfl, ?_⟩
  refine den_loop (σ := Nat) (fun i => [(0, .pointer (some ⟨g, 0, none⟩)), (3, .pointer (some ⟨w.heap.size, 0, none⟩)), (7, .int .i64 s.cs.length), (8, .int .i64 i)])
    (fun m i wl => i ≤ s.cs.length ∧ m = s.cs.length - i ∧ Lib.IsBuffer 78 5 w.heap.size w.heap.size (bvs (dump (s.cs.take i))) wl ∧ New w wl) s.cs.length 0 ⟨rfl, rfl, rfl, rfl, trivial⟩ ⟨Nat.zero_le _, rfl, hb0, n1⟩ ?_
  rintro m i wl fr1 ⟨hi, rfl, hbuf, hm⟩
  have hd := h.new hm
  refine if_p (fun hlt => ?_) (fun hge => ?_)
  · have hil : i < s.cs.length := by omega
    have hca := hd.each i _ (List.getElem?_eq_getElem hil)
    have hnl := hca.ok.now
    have hdl := dump_len (s.cs.take i) (fun c hc => h.oks c (List.mem_of_mem_take hc))
    rw [List.length_take, Nat.min_eq_left hi] at hdl
    have ex : (⟨q, 0, none⟩ : Addr).add ((i : Int).toNat * 257) = ⟨q, i * 257, none⟩ := by rw [Int.toNat_natCast, ad0]
    refine Exists.intro (some ⟨q, 0, none⟩) (Exists.intro s.cs.length (Exists.intro s.cs.length ?_))
    refine And.intro (by rw [ad0]; exact hd.c0) ?_
    refine And.intro (by omega) (And.intro hlt ?_)
    have hnow := now_ok base q i _ _ wl hca
    rw [← ex] at hnow
    refine call_ hnow ?_
    rintro e w2 ⟨rfl, n2⟩
    refine ⟨_, rfl, ?_⟩
    have n3 := n2.trans (New.alloc w2 (.cells (List.replicate 256 (Value.int .u8 0)).toArray 68))
    refine And.intro (by show (bvs s.cs[i].now).toArray.size = 256; simp [bvs_length, hnl]) ?_
    refine storeN_all (vs := bvs s.cs[i].now) (heap_alloc_new w2 (.cells (List.replicate 256 (Value.int .u8 0)).toArray 68)) (by simp [bvs_length, hnl]) (bvs_one _) ?_
    intro w4 hb4 m4 hs4
    refine thenF_ (region_ ?_)
    change evStep _ _ _ _ _ _ _ _
    change evOp Tryd.prog T F _ _ _ _
    refine cut_arr_ (a := ⟨w2.heap.size, 0, none⟩) ok rfl rfl rfl rfl rfl (by decide) ?_
    have s2 := n2.size
    have n4 : New wl w4 := Mod.trans n3 m4 fun b hb e => by omega
    have hbl := hbuf.lt
    have sm := hm.size
    have hbuf4 : Lib.IsBuffer 78 5 w.heap.size w.heap.size (bvs (dump (s.cs.take i))) w4 := by
      obtain ⟨hB, v, lr, hb, hown, hne⟩ := hbuf
      exact ⟨hB, v, lr, n4.blk hb, own_new n4 hown, hne⟩
    refine call_ (Buf.Buffer_Write_any w.heap.size w.heap.size (bvs (dump (s.cs.take i))) (bvs s.cs[i].now) ⟨w2.heap.size, 0, none⟩ 256 256 w4 hbuf4 (by have := n4.size; omega) (bvs_one _) (by rw [bvs_length]; exact hnl) (fun e => by have e' : w2.heap.size = w.heap.size := e; omega) ?_ (bvs_one _) (by rw [bvs_length, hdl]; omega)) ?_
    · intro j v hv
      rw [ad0, cell_of_row _ _ _ _ _ _ hb4]
      simpa using hv
    rintro e w6 ⟨rfl, hbuf6, hbel, _⟩
    refine ⟨_, rfl, ?_⟩
    have n6 : New w w6 := ⟨hbel.os.trans (hm.trans n4).os, hbel.tape.trans (hm.trans n4).tape, hbel.output.trans (hm.trans n4).output, Nat.le_trans (hm.trans n4).size hbel.size, fun k hk hn => (hbel.block k hk).trans ((hm.trans n4).block k hk hn)⟩
    refine ⟨s.cs.length - (i + 1), i + 1, by omega, ⟨rfl, rfl, rfl, ?_, trivial⟩, by omega, rfl, ?_, n6⟩
    · show Value.int .i64 (IntKind.i64.wrap _) = _
      rw [wrap_i64 (by omega) (by omega)]
      rfl
    · rw [dump_take s.cs i hil, bvs_append]
      exact hbuf6
  · have : i = s.cs.length := by omega
    subst this
    rw [List.take_length] at hbuf
    refine call_ (Buf.Buffer_Bytes w.heap.size w.heap.size (bvs (dump s.cs)) wl hbuf) ?_
    rintro e w6 ⟨v, rfl, hown, n, rfl⟩
    rw [bvs_length] at hown
    obtain ⟨A, c, rfl, _⟩ := own_slice hown
    exact ⟨_, rfl, _, rfl, hown, ⟨hm.os, hm.tape, hm.output, hm.size, hm.block⟩⟩
end Go.Proofs.YtgfdpojpcpgddaaDoor.Disk

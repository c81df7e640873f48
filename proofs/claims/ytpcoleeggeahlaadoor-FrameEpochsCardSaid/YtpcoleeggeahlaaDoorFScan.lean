/- The package frame, walked: the records of bytes, one behind the other. -/
import Derived.Test.YtpcoleeggeahlaaDoorFWalk5
import Derived.Test.YtpcoleeggeahlaaDoorRange
namespace Go.Proofs.YtpcoleeggeahlaaDoor.Frame
open Go Go.Proofs.YtpcoleeggeahlaaDoor Go.Proofs.YtpcoleeggeahlaaDoor.Eng Go.Proofs Go.Proofs.YtpcoleeggeahlaaDoor.Sum
set_option maxRecDepth 10000

def pairV (x : Nat × Rec) : Array Value := #[.int .i64 x.1, recV x.2]
structure Env (A : Option Addr) (n c : Nat) (bs : List UInt8) (bx : Nat) (w : World) : Prop where
  tb : tbl w
  row : Row w A (bvs bs)
  box : w.cell? ⟨bx, 0, none⟩ = some (.slice A n c)
theorem records_ok (A : Option Addr) (n c : Nat) (w : World) :
    Calls Tryd.prog 23 #[.slice A n c] w fun e w' => e = .returned (.func (.func 27) #[] #[.pointer (some ⟨w.heap.size, 0, none⟩)]) ∧ w' = w.alloc (.cells #[.slice A n c] 25) := by
  refine enter ok Tryd.func23 rfl rfl rfl ?_
  exact ⟨rfl, rfl⟩
theorem recs_stop {f : Nat} {bs : List UInt8} {at_ : Nat} {last : Int} (h : firstErr (bs.drop at_) ≠ 0 ∨ (firstRec (bs.drop at_)).e < last) : recs f bs at_ last = [] := by
  cases f with
  | zero => rfl
  | succ f =>
    unfold recs
    rw [if_neg]
    rintro ⟨h1, h2⟩
    rcases h with h | h
    · exact h h1
    · exact h2 h
theorem rec1_ok (A : Option Addr) (n c : Nat) (bs : List UInt8) (bx l : Nat) (J : List (Nat × Rec) → World → Prop) (W : World) (hn : n = bs.length) (hc : n ≤ c) (hcm : c ≤ 9223372036854775807) (hm : n ≤ 140737488351232)
    (h0 : J [] W) (hnew : ∀ pre X Y, J pre X → New X Y → J pre Y) (henv : ∀ pre X, J pre X → Env A n c bs bx X)
    (hy : ∀ pre x X, J pre X → pre.length ≤ n → YieldAt Fence.wide 0 Tryd.prog l (pairV x) X fun e Y => e = .returned (.bool true) ∧ J (pre ++ [x]) Y) :
    Calls Tryd.prog 27 #[.func (.yield l) #[] #[], .pointer (some ⟨bx, 0, none⟩)] W fun e W' => e = .returned (.tuple #[]) ∧ J (scan bs) W' := by
  refine enter ok Tryd.func27 rfl rfl rfl ?_
  refine den_loop (σ := List (Nat × Rec) × Nat × Nat × Int) (fun t => [(0, .func (.yield l) #[] #[]), (1, .pointer (some ⟨bx, 0, none⟩)), (3, .int .i64 t.2.2.1), (4, .int .i64 t.2.2.2)])
    (fun m t wl => t.2.2.1 ≤ n ∧ m = n - t.2.2.1 ∧ n + 1 ≤ t.2.1 + t.2.2.1 ∧ scan bs = t.1 ++ recs t.2.1 bs t.2.2.1 t.2.2.2 ∧ t.1.length ≤ t.2.2.1 ∧ J t.1 wl) n ([], n + 1, 0, 0) ⟨rfl, rfl, rfl, rfl, trivial⟩ ⟨Nat.zero_le _, rfl, by show n + 1 ≤ n + 1 + 0; omega, by unfold scan; rw [hn]; rfl, Nat.zero_le _, h0⟩ ?_
  rintro m ⟨pre, f, at_, last⟩ wl fr0 ⟨hat, rfl, hf, hsc, hpl, hJ⟩
  dsimp only at hat hf hsc hpl hJ
  have he := henv _ _ hJ
  refine Exists.intro A (Exists.intro n (Exists.intro c ?_))
  refine And.intro he.box ?_
  refine And.intro (by dsimp only; omega) (And.intro (by dsimp only; omega) ?_)
  have hrow : Row wl (slA A c at_ 1) (bvs (bs.drop at_)) := by
    have h := Row.cut he.row c at_ 1 (by rw [bvs_length]; omega)
    rw [Nat.mul_one] at h
    unfold bvs at h ⊢
    rw [List.map_drop]
    exact h
  refine call_ (First_ok (slA A c at_ 1) (n - at_) (c - at_) (bs.drop at_) wl he.tb (by rw [List.length_drop, hn]) hrow (by omega) (by omega) (by omega)) ?_
  rintro e w2 ⟨rfl, n2⟩
  refine ⟨_, rfl, ?_⟩
  have hfl : firstErr (bs.drop at_) = 0 → firstSize (bs.drop at_) ≤ n - at_ ∧ 12 ≤ firstSize (bs.drop at_) := fun h => by
    have := first_len h
    rw [List.length_drop] at this
    omega
  have hstop : firstErr (bs.drop at_) ≠ 0 ∨ (firstRec (bs.drop at_)).e < last → scan bs = pre := fun h => by rw [hsc, recs_stop h, List.append_nil]
  have hgo : firstErr (bs.drop at_) = 0 → ¬ (firstRec (bs.drop at_)).e < last → scan bs = (pre ++ [(at_ + firstSize (bs.drop at_), firstRec (bs.drop at_))]) ++ recs (f - 1) bs (at_ + firstSize (bs.drop at_)) (firstRec (bs.drop at_)).e := fun h1 h2 => by
    rw [hsc]
    obtain ⟨g, rfl⟩ : ∃ g, f = g + 1 := ⟨f - 1, by omega⟩
    rw [recs, if_pos ⟨h1, h2⟩, Nat.add_sub_cancel, List.append_assoc]
    rfl
  generalize firstErr (bs.drop at_) = fe at hfl hstop hgo
  generalize firstSize (bs.drop at_) = fs at hfl hstop hgo
  generalize firstRec (bs.drop at_) = r at hfl hstop hgo
  refine And.intro rfl ?_
  refine storeN_all (vs := recC r) (arr := #[.int .i64 0, .string ⟨#[]⟩]) (t := 23) (heap_alloc_new w2 _) rfl (by intro v hv; simp [recC] at hv; rcases hv with rfl | rfl <;> rfl) ?_
  intro w3 hb3 m3 hs3
  have n3 : New wl w3 := Mod.trans (n2.trans (New.alloc w2 _)) m3 (fun b hb e => by have := n2.size; omega)
  have J3 := hnew _ _ _ hJ n3
  have hcell : ∀ {w' : World}, New w3 w' → ∀ j u, (recC r)[j]? = some u → w'.cell? ⟨w2.heap.size, j, none⟩ = some u := fun m j u hu => by
    rw [cell_of_row _ _ j _ _ _ (m.blk hb3)]
    simpa using hu
  refine if_n (fun hne => ?_) (fun hz => ?_)
  · exact ⟨rfl, by rw [hstop (.inl hne)]; exact J3⟩
  replace hz : fe = 0 := hz
  obtain ⟨hfs1, hfs2⟩ := hfl hz
  refine Exists.intro r.e ?_
  refine And.intro (by rw [ad0]; exact hcell (New.refl _) 0 _ rfl) ?_
  refine if_p (fun hlt => ?_) (fun hge => ?_)
  · exact ⟨rfl, by rw [hstop (.inr hlt)]; exact J3⟩
  replace hge : ¬ r.e < last := hge
  refine draw_ ok (.q 0 (.q 1 (.q 2 (.q 3 (.q 4 (.q 5 (.q 6 .done))))))) [6] (New w3) (by kernel_rfl) (by kernel_rfl) (by kernel_rfl) (by kernel_rfl) (by kernel_rfl) (New.drew _) ?_
  refine Exists.intro r.e ?_
  refine And.intro (fun w'' hw => by rw [ad0]; exact hcell hw 0 _ rfl) ?_
  have J4 := hnew _ _ _ J3 (New.drew w3)
  refine loadN_row (vs := recC r) (fun k u hu => by rw [ad0]; exact hcell (New.drew _) k u hu) rfl ?_
  have ea : IntKind.i64.wrap ((at_ : Int) + (fs : Int)) = ((at_ + fs : Nat) : Int) := by rw [wrap_i64 (by omega) (by omega)]; omega
  have hY := hy pre (at_ + fs, r) w3.drew J4 (by omega)
  refine raw_yield (m := 0) rfl rfl rfl ?_ hY ?_
  · show ([.int .i64 (IntKind.i64.wrap ((at_ : Int) + (fs : Int))), .agg (recC r).toArray] : List Value) = (pairV (at_ + fs, r)).toList
    rw [ea]
    rfl
  rintro e w5 ⟨rfl, J5⟩
  refine ⟨_, rfl, ?_⟩
  refine ⟨n - (at_ + fs), (pre ++ [(at_ + fs, r)], f - 1, at_ + fs, r.e), by show n - (at_ + fs) < n - at_; omega, ⟨rfl, rfl, ?_, rfl, trivial⟩, by show at_ + fs ≤ n; omega, rfl, by show n + 1 ≤ f - 1 + (at_ + fs); omega, hgo hz hge, by show (pre ++ [_]).length ≤ at_ + fs; rw [List.length_append]; show pre.length + 1 ≤ _; omega, J5⟩
  show Value.int .i64 (IntKind.i64.wrap _) = _
  rw [ea]

/-- The numbers of a record in memory, one behind the other. -/
def cellsOf (l : List (Nat × Rec)) : List Value := l.flatMap fun x => recC x.2
theorem cellsOf_len (l : List (Nat × Rec)) : (cellsOf l).length = l.length * 2 := by
  induction l with
  | nil => rfl
  | cons x l ih =>
    unfold cellsOf at ih ⊢
    rw [List.flatMap_cons, List.length_append, ih, List.length_cons]
    show 2 + l.length * 2 = (l.length + 1) * 2
    omega
theorem recC_one (r : Rec) : ∀ u ∈ recC r, u.oneCell' = true := by intro v hv; simp [recC] at hv; rcases hv with rfl | rfl <;> rfl
theorem endOf_snoc (l : List (Nat × Rec)) (x : Nat × Rec) : endOf (l ++ [x]) = x.1 := by simp [endOf]
/-- What holds between two rounds of Scan. -/
structure Mid (w : World) (A : Option Addr) (n c : Nat) (bs : List UInt8) (L : Loop) (h : Nat) (pre : List (Nat × Rec)) (X : World) : Prop where
  nw : New w X
  bx : X.heap[h + 2]? = some (.cells #[.slice A n c] 25 (0, 0))
  b5 : X.heap[h + 1]? = some (.cells #[.int .i64 (endOf pre)] 3 (0, 0))
  dl : X.heap[h + 3]? = some (.deferred (some []))
  lp : X.heap[h + 4]? = some (.loop L)
  own : ∃ v, X.heap[h]? = some (.cells #[v] 32 (0, 0)) ∧ X.ownsRow h 23 2 v pre.length (cellsOf pre) ∧ ∀ b, v.ownBlock = some b → h + 4 < b
theorem Mid.new {w : World} {A : Option Addr} {n c : Nat} {bs : List UInt8} {L : Loop} {h : Nat} {pre : List (Nat × Rec)} {X Y : World} (m : Mid w A n c bs L h pre X) (k : New X Y) : Mid w A n c bs L h pre Y := by
  obtain ⟨v, h1, h2, h3⟩ := m.own
  exact ⟨m.nw.trans k, k.blk m.bx, k.blk m.b5, k.blk m.dl, k.blk m.lp, v, k.blk h1, own_new k h2, h3⟩

theorem Scan_ok (A : Option Addr) (n c : Nat) (bs : List UInt8) (w : World) (ht : tbl w) (hn : n = bs.length) (hr : Row w A (bvs bs)) (hc : n ≤ c) (hcm : c ≤ 9223372036854775807) (hm : n ≤ 100000000) :
    Calls Tryd.prog 11 #[.slice A n c] w fun e w' => ∃ v, e = .returned (.tuple #[v, .int .i64 (endOf (scan bs))]) ∧ w'.ownsRow w.heap.size 23 2 v (scan bs).length (cellsOf (scan bs)) ∧ New w w' := by
  refine callsIn_wide (n := 2).1 (callsIn_of_wp_marks (F := Fence.wide) Tryd.func11 rfl trivial ?_)
  have hrep : Rep [] 19 (frOf [.slice A n c]) { tmps := #[.slice A n c] ++ Array.replicate (19 - (#[.slice A n c] : Array Value).size) undef, defers := [] } := rep_enter (args := [.slice A n c]) (by simp)
  refine seq_denL ok (σ := Unit) (fun _ => [(0, .slice A n c)]) (fun _ w1 => w1 = w) rfl hrep (fun K hK => hK () _ _ ⟨rfl, trivial⟩ rfl) ?_
  rintro _ fr1 a1 w1 hr1 rfl
  refine seq_denL ok (σ := Unit) (fun _ => [(0, .slice A n c), (4, .pointer (some ⟨w1.heap.size, 0, none⟩))]) (fun _ w2 => w2 = w1.alloc (.cells #[.slice none 0 0] 32)) rfl hr1 (fun K hK => hK () _ _ ⟨rfl, rfl, trivial⟩ rfl) ?_
  rintro _ fr2 a2 w2 hr2 rfl
  have k2 := New.alloc w1 (.cells #[.slice none 0 0] 32)
  have b2 := heap_alloc_new w1 (.cells #[.slice none 0 0] 32)
  have s2 : (w1.alloc (.cells #[.slice none 0 0] 32)).heap.size = w1.heap.size + 1 := by simp
  generalize w1.alloc (.cells #[.slice none 0 0] 32) = w2 at *
  refine seq_denL ok (σ := Unit) (fun _ => [(0, .slice A n c), (4, .pointer (some ⟨w1.heap.size, 0, none⟩)), (5, .pointer (some ⟨w1.heap.size + 1, 0, none⟩))])
    (fun _ w3 => New w1 w3 ∧ w3.heap.size = w1.heap.size + 2 ∧ w3.heap[w1.heap.size]? = some (.cells #[.slice none 0 0] 32 (0, 0)) ∧ w3.heap[w1.heap.size + 1]? = some (.cells #[.int .i64 0] 3 (0, 0))) rfl hr2 ?_ ?_
  · intro K hK
    have b3 := heap_alloc_new w2 (.cells #[.int .i64 0] 3)
    have k3 := New.alloc w2 (.cells #[.int .i64 0] 3)
    have m3 := Mod.set (w2.alloc (.cells #[.int .i64 0] 3)) ⟨w2.heap.size, 0, none⟩ (.int .i64 0)
    have b4 := heap_setCell_same _ w2.heap.size 0 _ _ (.int .i64 0) b3
    refine And.intro ⟨_, by rw [cell_of_row _ _ 0 _ _ _ b3]; rfl⟩ (And.intro (frozen_of_row _ _ _ _ _ b3) ?_)
    refine hK () _ _ ⟨rfl, rfl, ?_, trivial⟩ ⟨Mod.trans (k2.trans k3) m3 (fun b hb e => by have e' : b = w2.heap.size := e; omega), ?_, ?_, ?_⟩
    · show Value.pointer (some ⟨w2.heap.size, 0, none⟩) = _
      rw [s2]
    · show (Array.modify _ _ _).size = _
      rw [Array.size_modify]
      simp [s2]
    · exact m3.blk (k3.blk b2) (fun e => by have e' : w1.heap.size = w2.heap.size := e; omega)
    · rw [← s2]
      exact b4
  rintro _ fr3 a3 w3 hr3 ⟨k3, s3, b30, b31⟩
  refine wpIn_seq (seq_denL ok (σ := Unit) (fun _ => [(4, .pointer (some ⟨w1.heap.size, 0, none⟩)), (5, .pointer (some ⟨w1.heap.size + 1, 0, none⟩)), (9, .func (.func 27) #[] #[.pointer (some ⟨w1.heap.size + 2, 0, none⟩)])])
    (fun _ w4 => w4 = w3.alloc (.cells #[.slice A n c] 25)) rfl hr3 ?_ ?_)
  · intro K hK
    refine call_ (records_ok A n c w3) ?_
    rintro e w4 ⟨rfl, rfl⟩
    refine ⟨_, rfl, ?_⟩
    rw [s3]
    exact hK () _ _ ⟨rfl, rfl, rfl, trivial⟩ rfl
  rintro _ fr4 a4 w4 hr4 rfl
  have k4 := k3.trans (New.alloc w3 (.cells #[.slice A n c] 25))
  have b4 := heap_alloc_new w3 (.cells #[.slice A n c] 25)
  have s4 : (w3.alloc (.cells #[.slice A n c] 25)).heap.size = w1.heap.size + 3 := by simp [s3]
  have b40 := (New.alloc w3 (.cells #[.slice A n c] 25)).blk b30
  have b41 := (New.alloc w3 (.cells #[.slice A n c] 25)).blk b31
  rw [s3] at b4
  generalize w3.alloc (.cells #[.slice A n c] 25) = w4 at *
  refine wpIn_block (range_ (m := 2) (gf := 27) (lb := #[.pointer (some ⟨w1.heap.size + 2, 0, none⟩)]) (by rw [hr4.eval]; rfl) (fun args w => ok.fn _ rfl args w) ?_)
  intro fn
  rw [s4]
  -- what the two blocks of the statement are
  have k5 := k4.trans ((New.alloc w4 (.deferred (some []))))
  generalize hL : ({ state := .ready, pending := none, fn, tmps := a4.tmps, params := _, assign := _, body := _, defers := w1.heap.size + 3 } : Loop) = L
  have hb0 := heap_alloc_new w4 (.deferred (some []))
  have hb1 := heap_alloc_new (w4.alloc (.deferred (some []))) (.loop L)
  have hs1 : (w4.alloc (.deferred (some []))).heap.size = w1.heap.size + 4 := by simp [s4]
  rw [s4] at hb0
  rw [hs1] at hb1
  have n01 := New.alloc (w4.alloc (.deferred (some []))) (.loop L)
  have n04 := (New.alloc w4 (.deferred (some []))).trans n01
  have kW := k4.trans n04
  have hbW0 := n04.blk b40
  have hbW1 := n04.blk b41
  have hbW2 := n04.blk b4
  have hbW3 := n01.blk hb0
  generalize (w4.alloc (.deferred (some []))).alloc (.loop L) = W at *
  have hlow : ∀ (l : List UInt8), Row w1 A (bvs l) → ∀ {X : World}, New w1 X → Row X A (bvs l) := fun l h X k => h.new k
  refine (rec1_ok A n c bs (w1.heap.size + 2) (w1.heap.size + 4) (Mid w1 A n c bs L w1.heap.size) W hn hc hcm (by omega) ?_ (fun pre X Y m k => m.new k) ?_ ?_).mono ?_
  · exact ⟨kW, hbW2, hbW1, hbW3, hb1, .slice none 0 0, hbW0, ⟨rfl, .inl ⟨rfl, rfl⟩⟩, fun b hb => by cases hb⟩
  · intro pre X m
    exact ⟨ht.new m.nw, hr.new m.nw, by rw [cell_of_row _ _ 0 _ _ _ m.bx]; rfl⟩
  · intro pre x X hM hpl
    subst hL
    refine yield_den ok (n := 19) hM.lp rfl rfl (rep_round2 hr4 (by decide) (by decide)) rfl rfl ?_
    refine And.intro rfl ?_
    refine storeN_all (vs := recC x.2) (arr := #[.int .i64 0, .string ⟨#[]⟩]) (t := 23) (heap_alloc_new X _) rfl (recC_one _) ?_
    intro w6 hb6 m6 hs6
    have n6 : New X w6 := Mod.trans (New.alloc X _) m6 (fun b hb e => by omega)
    have hM6 := hM.new n6
    refine ⟨hM6.lp, ?_⟩
    have hXs : w1.heap.size + 4 < X.heap.size := (Array.getElem?_eq_some_iff.1 hM.lp).1
    have hlt6 : w1.heap.size + 4 < w6.heap.size := (Array.getElem?_eq_some_iff.1 hM6.lp).1
    generalize hLb : ({ state := .busy, pending := _, fn, tmps := _, params := _, assign := _, body := _, defers := _ } : Loop) = Lb
    have m7 := Mod.put w6 (w1.heap.size + 4) (.loop Lb)
    have hl7 : (w6.putObj (w1.heap.size + 4) (.loop Lb)).heap[w1.heap.size + 4]? = some (.loop Lb) := World.putObj_heap_same hlt6
    obtain ⟨v, hv, hown, hvb⟩ := hM6.own
    obtain ⟨A7, c7, rfl, _⟩ := own_slice hown
    generalize w6.putObj (w1.heap.size + 4) (.loop Lb) = w7 at *
    have hs7 := m7.size
    have hv7 := m7.blk hv (by omega)
    have ho7 := own_mod m7 hown (fun k hk e => by have := hvb k hk; omega)
    have hb57 := m7.blk hM6.b5 (by omega)
    have hbx7 := m7.blk hM6.bx (by omega)
    have hdl7 := m7.blk hM6.dl (by omega)
    have hb67 := m7.blk hb6 (by omega)
    have k7 : New w1 w7 := Mod.trans hM6.nw m7 (fun b hb e => by omega)
    refine Exists.intro A7 (Exists.intro pre.length (Exists.intro c7 ?_))
    refine And.intro (by rw [cell_of_row _ _ 0 _ _ _ hv7]; rfl) ?_
    refine loadN_row (vs := recC x.2) (fun k u hu => by rw [ad0, cell_of_row _ _ k _ _ _ hb67]; simpa using hu) rfl ?_
    have a8 := New.alloc w7 (.cells (recC x.2).toArray 23)
    have hrow8 : Row (w7.alloc (.cells (recC x.2).toArray 23)) (some ⟨w7.heap.size, 0, none⟩) (recC x.2) := row_alloc w7 (recC x.2) _ _
    have hw7 := k7.size
    refine append2_ ok rfl rfl rfl rfl (own_new a8 ho7) rfl rfl hrow8 rfl (recC_one _) (by decide) rfl (by show (pre.length + 1) * 24 ≤ _; omega) (by omega) (Nat.le_trans hw7 a8.size) ?_
    intro A8 c8 w8 own8 mod8 st8
    have blk8 : ∀ b o, b ≤ w1.heap.size + 4 → w7.heap[b]? = some o → w8.heap[b]? = some o := fun b o hb ho => mod8.blk (a8.blk ho) (fun e => by have := hvb b e.symm; omega)
    have hv8 := blk8 _ _ (by omega) hv7
    have hb58 := blk8 _ _ (by omega) hb57
    refine And.intro ⟨_, by rw [cell_of_row _ _ 0 _ _ _ hv8]; rfl⟩ (And.intro (frozen_of_row _ _ _ _ _ hv8) ?_)
    have m9 := Mod.set w8 ⟨w1.heap.size, 0, none⟩ (.slice A8 (pre.length + 1) c8)
    have hv9 := heap_setCell_same w8 w1.heap.size 0 _ _ (.slice A8 (pre.length + 1) c8) hv8
    have hb59 := m9.blk hb58 (fun e => by have e' : w1.heap.size + 1 = w1.heap.size := e; omega)
    refine And.intro ⟨_, by rw [cell_of_row _ _ 0 _ _ _ hb59]; rfl⟩ (And.intro (frozen_of_row _ _ _ _ _ hb59) ?_)
    have m10 := Mod.set (w8.setCell ⟨w1.heap.size, 0, none⟩ (.slice A8 (pre.length + 1) c8)) ⟨w1.heap.size + 1, 0, none⟩ (.int .i64 x.1)
    have hb510 := heap_setCell_same _ (w1.heap.size + 1) 0 _ _ (.int .i64 x.1) hb59
    have hv10 := m10.blk hv9 (fun e => by have e' : w1.heap.size = w1.heap.size + 1 := e; omega)
    have blk10 : ∀ b o, w1.heap.size + 1 < b → w8.heap[b]? = some o → ((w8.setCell ⟨w1.heap.size, 0, none⟩ (.slice A8 (pre.length + 1) c8)).setCell ⟨w1.heap.size + 1, 0, none⟩ (.int .i64 x.1)).heap[b]? = some o := fun b o hb ho =>
      m10.blk (m9.blk ho (fun e => by have e' : b = w1.heap.size := e; omega)) (fun e => by have e' : b = w1.heap.size + 1 := e; omega)
    have hl10 := blk10 _ _ (by omega) (blk8 _ _ (by omega) hl7)
    have hbx10 := blk10 _ _ (by omega) (blk8 _ _ (by omega) hbx7)
    have hdl10 := blk10 _ _ (by omega) (blk8 _ _ (by omega) hdl7)
    have hvb8 : ∀ b, (Value.slice A8 (pre.length + 1) c8).ownBlock = some b → w1.heap.size + 4 < b := fun b hb => by
      rcases st8 b hb with h | h
      · exact hvb b h
      · have h2 : w7.heap.size ≤ b := Nat.le_trans a8.size h
        omega
    have own10 := own_mod m10 (own_mod m9 own8 (fun k hk e => by have := hvb8 k hk; have e' : k = w1.heap.size := e; omega)) (fun k hk e => by have := hvb8 k hk; have e' : k = w1.heap.size + 1 := e; omega)
    have k8 : New w1 w8 := Mod.trans (k7.trans a8) mod8 (fun b hb e => by have := hvb b e.symm; omega)
    have k10 : New w1 ((w8.setCell ⟨w1.heap.size, 0, none⟩ (.slice A8 (pre.length + 1) c8)).setCell ⟨w1.heap.size + 1, 0, none⟩ (.int .i64 x.1)) :=
      Mod.trans (Mod.trans k8 m9 (fun b hb e => by have e' : b = w1.heap.size := e; omega)) m10 (fun b hb e => by have e' : b = w1.heap.size + 1 := e; omega)
    refine ⟨rfl, hl10, rfl, ?_⟩
    generalize (w8.setCell ⟨w1.heap.size, 0, none⟩ (.slice A8 (pre.length + 1) c8)).setCell ⟨w1.heap.size + 1, 0, none⟩ (.int .i64 x.1) = w10 at *
    have m11 := fun o => Mod.put w10 (w1.heap.size + 4) o
    have hl11 := fun o => World.putObj_heap_same (w := w10) (r := w1.heap.size + 4) (o := o) (Array.getElem?_eq_some_iff.1 hl10).1
    refine ⟨Mod.trans k10 (m11 _) (fun b hb e => by omega), (m11 _).blk hbx10 (by omega), ?_, (m11 _).blk hdl10 (by omega), hl11 _, .slice A8 (pre.length + 1) c8, (m11 _).blk hv10 (by omega), ?_, hvb8⟩
    · rw [endOf_snoc]
      exact (m11 _).blk hb510 (by omega)
    · have ec : cellsOf (pre ++ [x]) = cellsOf pre ++ recC x.2 := by unfold cellsOf; rw [List.flatMap_append]; simp
      rw [ec, List.length_append]
      exact own_mod (m11 _) own10 (fun k hk e => by have := hvb8 k hk; omega)
  · rintro e w5 ⟨rfl, hM⟩
    refine ⟨_, L, rfl, hM.lp, by subst hL; simp, by subst hL; rfl, ?_⟩
    have hD : Rep [{ target := .collected (w1.heap.size + 3), args := #[] }] 19 _ { tmps := a4.tmps, defers := { target := .collected (w1.heap.size + 3), args := #[] } :: a4.defers } := ⟨by rw [hr4.defers], hr4.size, hr4.read⟩
    have m6 := Mod.put w5 (w1.heap.size + 4) (.loop { L with state := .exhausted })
    have hdl6 := m6.blk hM.dl (by omega)
    have hb56 := m6.blk hM.b5 (by omega)
    obtain ⟨v, hv, hown, hvb⟩ := hM.own
    have hv6 := m6.blk hv (by omega)
    have own6 := own_mod m6 hown (fun k hk e => by have := hvb k hk; omega)
    have k6 : New w1 (w5.putObj (w1.heap.size + 4) (.loop { L with state := .exhausted })) := Mod.trans hM.nw m6 (fun b hb e => by omega)
    change Code.wpIn Fence.wide 2 _ _ _ _ (w5.putObj (w1.heap.size + 4) (.loop { L with state := .exhausted }))
    generalize w5.putObj (w1.heap.size + 4) (.loop { L with state := .exhausted }) = w6 at *
    obtain ⟨A8, c8, rfl, _⟩ := own_slice own6
    refine wpIn_mono (den_sound (mm := 2) (r := none) ok _ (fun e fr w => match e with
      | .ret => w.heap[w1.heap.size + 3]? = some (.deferred (some [])) ∧ retQ T fr (w.putObj (w1.heap.size + 3) (.deferred none)) [.tmp 2, .tmp 3] [] (fun vs => ∃ v, Ending.returned (packV vs) = .returned (.tuple #[v, .int .i64 (endOf (scan bs))]) ∧ (w.putObj (w1.heap.size + 3) (.deferred none)).ownsRow w1.heap.size 23 2 v (scan bs).length (cellsOf (scan bs)) ∧ New w1 (w.putObj (w1.heap.size + 3) (.deferred none)))
      | _ => False) _ w6 rfl ?_ _ hD) ?_
    · refine draw_ ok (.q 0 (.q 1 (.q 2 (.q 3 .done)))) [3] (New w6) (by kernel_rfl) (by kernel_rfl) (by kernel_rfl) (by kernel_rfl) (by kernel_rfl) (New.drew _) ?_
      refine Exists.intro A8 (Exists.intro (scan bs).length (Exists.intro c8 ?_))
      refine And.intro (fun w'' hw => by rw [cell_of_row _ _ 0 _ _ _ (hw.blk hv6)]; rfl) ?_
      refine Exists.intro (endOf (scan bs) : Int) ?_
      refine And.intro (fun w'' hw => by rw [cell_of_row _ _ 0 _ _ _ (hw.blk hb56)]; rfl) ?_
      have kd := New.drew w6
      have mp := Mod.put w6.drew (w1.heap.size + 3) (.deferred none)
      refine ⟨kd.blk hdl6, _, rfl, ?_, ?_⟩
      · exact own_mod mp (own_new kd own6) (fun k hk e => by have := hvb k hk; omega)
      · exact Mod.trans (k6.trans kd) mp (fun b hb e => by omega)
    · rintro e a' w' ⟨fr', hr', hq⟩
      cases e with
      | ret => exact leave_ ok hr' hq.1 hq.2
      | normal => exact hq.elim
      | exit id => exact hq.elim
      | goto t => exact hq.elim
      | panic c => exact hq.elim
      | outgrown => exact hq.elim
end Go.Proofs.YtpcoleeggeahlaaDoor.Frame

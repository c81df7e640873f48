/- The statement DiskTrips, walked. -/
import Derived.Test.YtgfdpojpcpgddaaDoorDSure
namespace Go.Proofs.YtgfdpojpcpgddaaDoor.Disk
open Go Go.Proofs.YtgfdpojpcpgddaaDoor Go.Proofs.YtgfdpojpcpgddaaDoor.Eng Go.Proofs
set_option maxRecDepth 10000

def T0 (N : Nat) : DS := { fresh 4 with trip := (N : Int) }
def tripSt (N i : Nat) (acts : List ActV) : DS := if i ≤ N then { runs (fresh 4) (acts.take i) with trip := (N : Int) - i } else { runs (fresh 4) (acts.take N) with trip := 0, gone := true }
theorem act_trip {N : Nat} {s : DS} (h : Inv N s) (hf : Free s) (t : Int) (ht : 0 < t) (a : ActV) : act { s with trip := t } a = { act s a with trip := t - 1 } := by
  have hc : s.can = true := hf.can
  have hc' : DS.can { s with trip := t } = true := by simp [DS.can, hf.2]; omega
  have hmv : DS.mv { s with trip := t } = { s.mv with trip := t - 1 } := by
    unfold DS.mv
    rw [if_pos hc', if_pos hc]
    dsimp only
    have : max (t - 1) (-1) = t - 1 := by omega
    rw [this]
  unfold act
  split
  · unfold barDS
    rw [if_pos hc', if_pos hc, hmv]
  · rw [storeDS_eq s h.len, storeDS_eq { s with trip := t } h.len, if_pos hc', if_pos hc, hmv]
theorem act_stop {N : Nat} {s : DS} (h : Inv N s) (hc : s.can = false) (a : ActV) : act s a = { s with gone := true } := by
  have hmv : s.mv = { s with gone := true } := by unfold DS.mv; rw [if_neg (by rw [hc]; simp)]
  unfold act
  split
  · unfold barDS
    rw [if_neg (by rw [hc]; simp), hmv]
  · rw [storeDS_eq s h.len, if_neg (by rw [hc]; simp), hmv]
theorem act_moves {N : Nat} {s : DS} (h : Inv N s) (hf : Free s) (a : ActV) : (act s a).moves = s.moves + 1 := by
  have hc : s.can = true := hf.can
  have hmv : s.mv.moves = s.moves + 1 := by unfold DS.mv; rw [if_pos hc]
  unfold act
  split
  · unfold barDS
    rw [if_pos hc]
    exact hmv
  · rw [storeDS_eq s h.len, if_pos hc]
    exact hmv
theorem runs_moves (acts : List ActV) : ∀ i, i ≤ acts.length → (runs (fresh 4) (acts.take i)).moves = i := by
  intro i
  induction i with
  | zero => intro _; rfl
  | succ i ih =>
    intro hi
    have hinv := inv_runs (fresh 4) 0 inv_fresh (acts.take i)
    rw [List.take_succ_eq_append_getElem (by omega), runs_snoc, act_moves hinv (free_runs _ (free_fresh 4) _), ih (by omega)]
    omega
theorem trip_inv (N i : Nat) (acts : List ActV) (hN : N ≤ 1000) : Inv i (tripSt N i acts) := by
  unfold tripSt
  split
  · rename_i h
    have hinv := inv_runs (fresh 4) 0 inv_fresh (acts.take i)
    rw [List.length_take, Nat.zero_add] at hinv
    have hinv := hinv.mono (show min i acts.length ≤ i by omega)
    exact ⟨hinv.len, by dsimp only; omega, by dsimp only; omega, hinv.moves0, hinv.moves1, hinv.ws⟩
  · rename_i h
    have hinv := inv_runs (fresh 4) 0 inv_fresh (acts.take N)
    rw [List.length_take, Nat.zero_add] at hinv
    have hinv := hinv.mono (show min N acts.length ≤ i by omega)
    exact ⟨hinv.len, by dsimp only; omega, by dsimp only; omega, hinv.moves0, hinv.moves1, hinv.ws⟩
theorem trip_step (N i : Nat) (acts : List ActV) (hi : i < acts.length) (hN : N ≤ 1000) : act (tripSt N i acts) acts[i] = tripSt N (i + 1) acts := by
  have hinv := trip_inv N i acts hN
  by_cases h : i < N
  · have hr := inv_runs (fresh 4) 0 inv_fresh (acts.take i)
    have hf := free_runs _ (free_fresh 4) (acts.take i)
    unfold tripSt
    rw [if_pos (by omega), if_pos (by omega), act_trip hr hf _ (by omega), List.take_succ_eq_append_getElem hi, runs_snoc]
    have : (N : Int) - (i : Int) - 1 = (N : Int) - ((i + 1 : Nat) : Int) := by omega
    rw [this]
  · have hc : (tripSt N i acts).can = false := by
      unfold tripSt
      split
      · have : (N : Int) - i = 0 := by omega
        simp [DS.can, this]
      · simp [DS.can]
    rw [act_stop hinv hc]
    unfold tripSt
    rw [if_neg (show ¬ i + 1 ≤ N by omega)]
    split
    · have hiN : i = N := by omega
      subst hiN
      rw [Int.sub_self]
    · rfl
theorem trip_err (N i : Nat) (acts : List ActV) : actErr (tripSt N i acts) = if i < N then 0 else 10 := by
  unfold actErr
  by_cases h : i < N
  · have hf := free_runs _ (free_fresh 4) (acts.take i)
    have hc : (tripSt N i acts).can = true := by
      unfold tripSt
      rw [if_pos (by omega)]
      simp [DS.can, hf.2]
      omega
    rw [if_pos hc, if_pos h]
  · have hc : (tripSt N i acts).can = false := by
      unfold tripSt
      split
      · have : (N : Int) - i = 0 := by omega
        simp [DS.can, this]
      · simp [DS.can]
    rw [if_neg (by rw [hc]; simp), if_neg h]
theorem Rows2.take {w : World} {A : Option Addr} {sz : Nat} {css : List (List Value)} (h : Rows2 w A sz css) (k : Nat) : Rows2 w A sz (css.take k) := by
  intro i cs hi
  rw [List.getElem?_take] at hi
  split at hi
  · exact h i cs hi
  · cases hi
theorem Rows2.new {w w' : World} {A : Option Addr} {sz : Nat} {css : List (List Value)} (h : Rows2 w A sz css) (n : New w w') : Rows2 w' A sz css := fun i cs hi => by
  obtain ⟨h1, a, h2, h3⟩ := h i cs hi
  exact ⟨h1, a, h2, fun k u hu => n.cell (h3 k u hu)⟩
theorem Barrier4_ok {N : Nat} (base g q : Nat) (vs : Nat → Value) (s : DS) (w : World) (h : Dk w base g q vs s) (hi : Inv N s) (hN : N ≤ 1000) :
    Calls Tryd.prog 17 #[.pointer (some ⟨g, 0, none⟩)] w fun e w' => e = .returned (.int .i64 (actErr s)) ∧
      ∃ vs', Dk w' base g q vs' (barDS s) ∧ Mod (DSet g q 4 vs) w w' ∧ ∀ b, DSet g q 4 vs' b → DSet g q 4 vs b ∨ w.heap.size ≤ b := by
  have := Barrier_ok base g q vs s w h (hi.fine hN) (by rw [hi.len]; decide) (by rw [hi.len]; decide) (hi.lim hN)
  rw [hi.len] at this
  refine this.mono ?_
  rintro e w' ⟨rfl, vs', h1, h2, h3⟩
  exact ⟨rfl, vs', h1, h2, fun b hb => .inl (h3 b hb)⟩

theorem DiskTrips_ok (D : Option Addr) (n0 c0 : Nat) (acts0 : List ActV) (nn : Int) (w : World) (hn0 : n0 = acts0.length) (hc0 : n0 ≤ c0) (hd0 : Rows2 w D 6 (acts0.map ActV.cells)) :
    Calls Tryd.prog 7 #[.slice D n0 c0, .int .i64 nn] w fun e w' => e = .returned (.bool true) ∧ New w w' := by
  refine enter ok Tryd.func7 rfl rfl rfl ?_
  refine call_ (works_ok w) ?_
  rintro e w0 ⟨b0, rfl, rfl, n0'⟩
  refine ⟨_, rfl, ?_⟩
  refine call_ (Base.Among_ok nn 40 w0 (by omega)) ?_
  rintro e w0 ⟨rfl, rfl⟩
  refine ⟨_, rfl, ?_⟩
  obtain ⟨j0, j1⟩ := Base.among_lt (x := nn) (n := 40) (by omega)
  obtain ⟨N, hN⟩ : ∃ N : Nat, Base.among nn 40 = N := ⟨(Base.among nn 40).toNat, by omega⟩
  rw [hN] at j0 j1 ⊢
  have hd : Rows2 w D 6 ((acts0.take 80).map ActV.cells) := by
    rw [List.map_take]
    exact Rows2.take hd0 80
  have hlen : (acts0.take 80).length = min n0 80 := by rw [List.length_take, hn0, Nat.min_comm]
  refine seq_cut (σ := Unit) (fun _ => [(0, .slice D (min n0 80) c0), (1, .int .i64 N)]) (fun _ w' => w' = w0) ?_ ?_
  rotate_left
  · intro K hK
    refine if_p (fun h80 => ?_) (fun h80 => ?_)
    · refine And.intro (by omega) (And.intro (by omega) ?_)
      refine hK () _ _ ⟨?_, rfl, trivial⟩ rfl
      show Value.slice D (80 : Int).toNat c0 = _
      have : (80 : Int).toNat = min n0 80 := by omega
      rw [this]
    · refine hK () _ _ ⟨?_, rfl, trivial⟩ rfl
      show Value.slice D n0 c0 = _
      have : n0 = min n0 80 := by omega
      rw [← this]
  rintro s w0 fr0 rfl
  generalize acts0.take 80 = acts at hd hlen
  have hc1 : min n0 80 ≤ c0 := by omega
  have hn80 : min n0 80 ≤ 80 := by omega
  clear hd0 hn0 hc0
  generalize min n0 80 = n1 at hlen hc1 hn80
  refine call_ (Make_ok 4 w0 (by omega) (by omega)) ?_
  rintro e w1 ⟨g, q, rfl, d1, k1⟩
  refine ⟨_, rfl, ?_⟩
  refine call_ (Trip_ok w0.heap.size g q _ (fresh 4) N w1 d1 (by decide)) ?_
  rintro e w2 ⟨rfl, d2, m2⟩
  refine ⟨_, rfl, ?_⟩
  have k2 : New w0 w2 := Mod.trans k1 m2 fun b hb e => by have := (d1.lt g (.inl rfl)).1; omega
  have ini : ({ fresh 4 with trip := max (N : Int) (-1) } : DS) = tripSt N 0 acts := by
    unfold tripSt
    rw [if_pos (Nat.zero_le _)]
    have e1 : max (N : Int) (-1) = (N : Int) - ((0 : Nat) : Int) := by omega
    rw [e1]
    rfl
  rw [ini] at d2
  refine den_loop (σ := Nat × (Nat → Value)) (fun t => [(0, .slice D n1 c0), (1, .int .i64 N), (5, .pointer (some ⟨g, 0, none⟩)), (7, .int .i64 t.1)])
    (fun m t wl => t.1 ≤ n1 ∧ m = n1 - t.1 ∧ Dk wl w0.heap.size g q t.2 (tripSt N t.1 acts) ∧ New w0 wl) n1 (0, fun _ => .slice none 0 0) ⟨rfl, rfl, rfl, rfl, trivial⟩ ⟨Nat.zero_le _, rfl, d2, k2⟩ ?_
  rintro m ⟨i, vs⟩ wl fr1 ⟨hi, rfl, hk, nl⟩
  dsimp only at hi hk nl
  have hinv := trip_inv N i acts (by omega)
  refine if_p (fun hlt => ?_) (fun hge => ?_)
  · replace hlt : (i : Int) < n1 := hlt
    have hi' : i < acts.length := by omega
    have hstep := trip_step N i acts hi' (by omega)
    have herr := trip_err N i acts
    obtain ⟨a, rfl, hcells⟩ := hd.at_ i (by simpa using hi')
    have hcw : ∀ k u, (acts[i].cells)[k]? = some u → w.cell? ((a.add (i * 6)).add k) = some u := fun k u hu => hcells k u (by simpa using hu)
    have hab : a.block < w.heap.size := by
      have := World.block_lt_of_cell? w _ (hcw 0 _ rfl)
      rwa [add_block, add_block] at this
    have hcell : ∀ k u, (acts[i].cells)[k]? = some u → wl.cell? ((a.add (i * 6)).add k) = some u := fun k u hu => (n0'.trans nl).cell (hcw k u hu)
    generalize acts[i] = ac at hcell hstep
    generalize tripSt N i acts = s at hk hinv hstep herr
    have e0 : (i : Int).toNat * 6 = i * 6 := by rw [Int.toNat_natCast]
    have hnD : ∀ k : Nat, ¬ DSet g q 4 vs ((a.add (i * 6)).add k).block := fun k h => by
      rw [add_block, add_block] at h
      rw [← hinv.len] at h
      have h1 := (hk.lt _ h).1
      have h2 := n0'.size
      omega
    refine skip_ (thenF_ (seq_ (block_ (seq_assign ?_))))
    refine seq_cut (σ := Nat → Value) (fun _ => [(0, .slice (some a) n1 c0), (1, .int .i64 N), (5, .pointer (some ⟨g, 0, none⟩)), (7, .int .i64 i), (8, .int .i64 (actErr s))])
      (fun vs' w6 => Dk w6 w0.heap.size g q vs' (act s ac) ∧ New w0 w6) ?_ ?_
    rotate_left
    · intro K hK
      refine And.intro (by omega) (And.intro hlt ?_)
      refine Exists.intro ac.d ?_
      refine And.intro (by rw [e0]; exact hcell 0 _ rfl) ?_
      refine call_ (Base.Among_ok ac.d 4 wl (by omega)) ?_
      rintro e w2 ⟨rfl, rfl⟩
      refine ⟨_, rfl, ?_⟩
      refine if_p (fun h3 => ?_) (fun h3 => ?_)
      · refine call_ (Barrier4_ok w0.heap.size g q vs s w2 hk hinv (by omega)) ?_
        rintro e w3 ⟨rfl, vs', d3, m3, _⟩
        refine ⟨_, rfl, ?_⟩
        have ea : act s ac = barDS s := by unfold act; rw [if_pos h3]
        rw [← ea] at d3
        exact hK vs' _ _ ⟨rfl, rfl, rfl, rfl, rfl, trivial⟩ ⟨d3, hk.newD nl (by rw [hinv.len]; exact m3)⟩
      · refine draw_ ok (.q 0 (.q 1 (.q 2 (.q 3 (.q 4 (.q 5 (.q 7 (.q 8 (.q 9 (.q 10 (.q 11 (.e 6 (.e 12 (.e 13 (.q 14 .done))))))))))))))) [14] (Mod (DSet g q 4 vs) w2) (by kernel_rfl) (by kernel_rfl) (by kernel_rfl) (by kernel_rfl) (by kernel_rfl) (New.drew _).mod ?_
        refine And.intro (by omega) (And.intro hlt ?_)
        refine Exists.intro ac.at_ ?_
        refine And.intro (fun w'' hw => by rw [e0]; exact hw.cell (hcell 1 _ rfl) (hnD 1)) ?_
        refine And.intro (by omega) (And.intro hlt ?_)
        refine Exists.intro (ac.b.toNat : Int) ?_
        refine And.intro (fun w'' hw => by rw [e0]; exact hw.cell (hcell 3 _ rfl) (hnD 3)) ?_
        refine call_ (Base.Among_ok ac.at_ 4 w2.drew (by omega)) ?_
        rintro e w3 ⟨rfl, rfl⟩
        refine ⟨_, rfl, ?_⟩
        refine Exists.intro (Mod (DSet g q 4 vs) w2) (And.intro (fun _ h => h) (And.intro (New.drew _).mod ?_))
        refine call_ (of_ok ac.b w2.drew) ?_
        rintro e w4 ⟨v4, rfl, own4, n4⟩
        obtain ⟨A4, c4, rfl, hc4, ht4, row4, hA4⟩ := own_slice own4
        refine ⟨_, rfl, ?_⟩
        have n24 := (New.drew w2).trans n4
        refine Exists.intro (Mod (DSet g q 4 vs) w2) (And.intro (fun _ h => h) (And.intro n24.mod ?_))
        have d4 := hk.new n24
        refine call_ (Store4_ok w0.heap.size g q vs s ac.at_ ac.b A4 c4 w4 d4 hinv (by omega) row4 (fun b hb => hk.apart_new (hA4 b hb).1)) ?_
        rintro e w5 ⟨rfl, vs', d5, m5, _⟩
        refine ⟨_, rfl, ?_⟩
        have m25 : Mod (DSet g q 4 vs) w2 w5 := Mod.trans n24.mod m5 fun _ _ h => h
        refine Exists.intro (Mod (DSet g q 4 vs) w2) (And.intro (fun _ h => h) (And.intro m25 ?_))
        have ea : act s ac = storeDS s (Base.among ac.at_ 4) (rep ac.b) := by unfold act; rw [if_neg h3]
        rw [← ea] at d5
        exact hK vs' _ _ ⟨rfl, rfl, rfl, rfl, rfl, trivial⟩ ⟨d5, hk.newD nl (by rw [hinv.len]; exact m25)⟩
    rintro vs' w6 fr2 ⟨d6, k6⟩
    rw [hstep] at d6
    rw [herr]
    by_cases hiN : i < N
    · rw [if_pos hiN]
      refine if_p (fun _ => ?_) (fun h => absurd (show (i : Int) < N by omega) h)
      refine if_p (fun h => absurd h (by omega)) (fun _ => ?_)
      refine ⟨n1 - (i + 1), (i + 1, vs'), by omega, ⟨rfl, rfl, rfl, ?_, trivial⟩, by show i + 1 ≤ n1; omega, rfl, d6, k6⟩
      show Value.int .i64 (IntKind.i64.wrap _) = _
      rw [wrap_i64 (by omega) (by omega)]
      rfl
    · rw [if_neg hiN]
      refine if_p (fun h => absurd h (by omega)) (fun _ => ?_)
      refine if_p (fun _ => ?_) (fun h => absurd (show (N : Int) ≤ i by omega) h)
      refine ⟨n1 - (i + 1), (i + 1, vs'), by omega, ⟨rfl, rfl, rfl, ?_, trivial⟩, by show i + 1 ≤ n1; omega, rfl, d6, k6⟩
      show Value.int .i64 (IntKind.i64.wrap _) = _
      rw [wrap_i64 (by omega) (by omega)]
      rfl
  · replace hge : ¬ (i : Int) < n1 := hge
    have hin : i = n1 := by omega
    subst hin
    -- what the disk is at the end
    have hM : min N i ≤ acts.length := by omega
    have hcs : (tripSt N i acts).cs = (runs (fresh 4) (acts.take (min N i))).cs := by
      unfold tripSt
      split
      · rename_i h
        rw [Nat.min_eq_right h]
      · rename_i h
        rw [Nat.min_eq_left (by omega)]
    have hmv : (tripSt N i acts).moves = ((min N i : Nat) : Int) := by
      unfold tripSt
      split
      · rename_i h
        rw [Nat.min_eq_right h]
        exact runs_moves acts i (by omega)
      · rename_i h
        rw [Nat.min_eq_left (by omega)]
        exact runs_moves acts N (by omega)
    have hfe : fetchErr (tripSt N i acts) 0 = if N < i then 10 else 0 := by
      unfold fetchErr
      rw [if_neg (by rw [hinv.len]; omega)]
      unfold tripSt
      split
      · rename_i h
        have hf := free_runs _ (free_fresh 4) (acts.take i)
        rw [if_neg (show ¬ N < i by omega), if_neg (by rw [show (_ : DS).gone = false from hf.2]; simp)]
      · rename_i h
        rw [if_pos (show N < i by omega), if_pos rfl]
    generalize tripSt N i acts = sx at hk hinv hcs hmv hfe
    have emin : (if (i : Int) < (N : Int) then (i : Int) else (N : Int)) = ((min N i : Nat) : Int) := by split <;> omega
    have hst : Calls Tryd.prog 16 #[.slice D (if (i : Int) < (N : Int) then (i : Int) else (N : Int)).toNat c0] wl fun e w' => ∃ g q vs, e = .returned (.pointer (some ⟨g, 0, none⟩)) ∧ Dk w' wl.heap.size g q vs (runs (fresh 4) (acts.take (min N i))) ∧ New wl w' := by
      rw [emin, Int.toNat_natCast]
      have := stored_ok D (min N i) c0 (acts.take (min N i)) wl (by rw [List.length_take]; omega) (by rw [List.map_take]; exact Rows2.take (Rows2.new hd (n0'.trans nl)) _)
      rw [List.take_take, Nat.min_eq_right (show min N i ≤ 80 by omega)] at this
      exact this
    refine And.intro (by rw [emin]; omega) (And.intro (by rw [emin]; omega) ?_)
    refine call_ hst ?_
    rintro e w3 ⟨g2, q2, vs2, rfl, e3, n3⟩
    refine ⟨_, rfl, ?_⟩
    have d3 := hk.new n3
    have hiy : (runs (fresh 4) (acts.take (min N i))).cs.length = 4 := by rw [← hcs]; exact hinv.len
    generalize runs (fresh 4) (acts.take (min N i)) = sy at e3 hcs hiy
    have hF := Fetch_ok w0.heap.size g q vs sx 0 w3 d3 (by rw [hinv.len]; decide) (by rw [hinv.len]; decide)
    rw [hfe] at hF
    refine call_ hF ?_
    rintro e w4 ⟨v4, rfl, ans4, n4⟩
    obtain ⟨A4, c4, rfl, row4, hA4⟩ := ans4.row
    refine ⟨_, rfl, ?_⟩
    have d4 := d3.new n4
    refine call_ (Dump_ok w0.heap.size g q vs sx w4 d4 (by rw [hinv.len]; decide)) ?_
    rintro e w5 ⟨v5, rfl, own5, n5⟩
    obtain ⟨A5, c5, rfl, _, _, row5, hA5⟩ := own_slice own5
    refine ⟨_, rfl, ?_⟩
    have e5 := (e3.new n4).new n5
    refine call_ (Dump_ok wl.heap.size g2 q2 vs2 sy w5 e5 (by rw [hiy]; decide)) ?_
    rintro e w6 ⟨v6, rfl, own6, n6⟩
    obtain ⟨A6, c6, rfl, _, _, row6, hA6⟩ := own_slice own6
    refine ⟨_, rfl, ?_⟩
    refine call_ (Base.SameBytes_ok A5 A6 _ c5 _ c6 (dump sx.cs) (dump sy.cs) w6 rfl rfl (row5.new n6) row6) ?_
    rintro e w7 ⟨rfl, rfl⟩
    refine ⟨_, rfl, ?_⟩
    refine if_yes (decide_eq_true (by rw [hcs])) ?_
    refine if_yes (decide_eq_true ?_) ?_
    · by_cases h : N < i
      · rw [if_pos h, decide_eq_true (show (N : Int) < i by omega)]
        rfl
      · rw [if_neg h, decide_eq_false (show ¬ (N : Int) < i by omega)]
        rfl
    have d7 := (d4.new n5).new n6
    refine call_ (Moves_ok w0.heap.size g q vs sx w7 d7) ?_
    rintro e w8 ⟨rfl, rfl⟩
    refine ⟨_, rfl, ?_⟩
    refine if_yes (decide_eq_true (by rw [hmv, emin])) ?_
    refine call_ (Crash_ok w0.heap.size g q vs sx none 0 0 [] w8 d7 (by rw [hinv.len]; decide) (by rw [hinv.len]; decide) (hinv.lim (by omega)) (Row.nil _ _) rfl (fun h => absurd rfl h)) ?_
    rintro e w9 ⟨rfl, vs9, d9, m9, f9⟩
    refine ⟨_, rfl, ?_⟩
    have hin9 := crash_inv hinv []
    have hB := Barrier4_ok w0.heap.size g q vs9 (crashDS sx []) w9 d9 hin9 (by omega)
    have hz : actErr (crashDS sx []) = 0 := by unfold actErr; rw [if_pos (crash_free sx []).can]
    rw [hz] at hB
    refine call_ hB ?_
    rintro e w10 ⟨rfl, vs10, d10, m10, _⟩
    refine ⟨_, rfl, rfl, ?_⟩
    have nx := ((nl.trans n3).trans n4).trans (n5.trans n6)
    have k9 : New w0 w9 := d7.newD nx m9
    exact n0'.trans (d9.newD k9 (by rw [hin9.len]; exact m10))
end Go.Proofs.YtgfdpojpcpgddaaDoor.Disk

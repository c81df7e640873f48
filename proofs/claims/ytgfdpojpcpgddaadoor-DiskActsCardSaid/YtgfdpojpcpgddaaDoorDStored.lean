/- A disk behind stores and barriers, walked. -/
import Derived.Test.YtgfdpojpcpgddaaDoorDState
namespace Go.Proofs.YtgfdpojpcpgddaaDoor.Disk
open Go Go.Proofs.YtgfdpojpcpgddaaDoor Go.Proofs.YtgfdpojpcpgddaaDoor.Eng Go.Proofs
set_option maxRecDepth 10000

theorem Inv.lim {N : Nat} {s : DS} (h : Inv N s) (hN : N ≤ 1000) : ∀ c ∈ s.cs, c.ws.length ≤ 100000 := fun c hc => by have := h.ws c hc; omega
/-- A store of the statements. -/
theorem Store4_ok {N : Nat} (base g q : Nat) (vs : Nat → Value) (s : DS) (x : Int) (b : UInt8) (B : Option Addr) (cb : Nat) (w : World) (h : Dk w base g q vs s) (hi : Inv N s) (hN : N ≤ 1000) (hB : Row w B (bvs (rep b))) (hBo : ∀ a, B = some a → ¬ DSet g q s.cs.length vs a.block) :
    Calls Tryd.prog 18 #[.pointer (some ⟨g, 0, none⟩), .int .i64 (Base.among x 4), .slice B 256 cb] w fun e w' => e = .returned (.int .i64 (actErr s)) ∧
      ∃ vs', Dk w' base g q vs' (storeDS s (Base.among x 4) (rep b)) ∧ Mod (DSet g q 4 vs) w w' ∧ ∀ b, DSet g q 4 vs' b → DSet g q 4 vs b ∨ w.heap.size ≤ b := by
  have := Store_ok base g q vs s (Base.among x 4) B 256 cb (rep b) w h (hi.fine hN) (rep_len b).symm hB (by rw [hi.len]; decide) (by rw [hi.len]; decide) (hi.lim hN) hBo (by have := (h.lt g (.inl rfl)); omega)
  rw [storeErr_eq s hi.len, hi.len] at this
  exact this
theorem stored_ok (D : Option Addr) (n c : Nat) (acts : List ActV) (w : World) (hn : n = acts.length) (hd : Rows2 w D 6 (acts.map ActV.cells)) :
    Calls Tryd.prog 16 #[.slice D n c] w fun e w' => ∃ g q vs, e = .returned (.pointer (some ⟨g, 0, none⟩)) ∧ Dk w' w.heap.size g q vs (runs (fresh 4) (acts.take 80)) ∧ New w w' := by
  refine enter ok Tryd.func16 rfl rfl rfl ?_
  refine call_ (Make_ok 4 w (by omega) (by omega)) ?_
  rintro e w1 ⟨g, q, rfl, d1, n1⟩
  refine ⟨_, rfl, ?_⟩
  have fin : ∀ i, (i = acts.length ∧ i ≤ 80 ∨ i = 80) → acts.take i = acts.take 80 := by
    rintro i (⟨h, h2⟩ | h)
    · rw [List.take_of_length_le (by omega), List.take_of_length_le (by omega)]
    · rw [h]
  refine den_loop (σ := Nat × (Nat → Value)) (fun t => [(0, .slice D n c), (3, .pointer (some ⟨g, 0, none⟩)), (5, .int .i64 t.1)])
    (fun m t wl => t.1 ≤ n ∧ t.1 ≤ 80 ∧ m = 80 - t.1 ∧ Dk wl w.heap.size g q t.2 (runs (fresh 4) (acts.take t.1)) ∧ New w wl) 80 (0, fun _ => .slice none 0 0) ⟨rfl, rfl, rfl, trivial⟩ ⟨Nat.zero_le _, Nat.zero_le _, rfl, d1, n1⟩ ?_
  rintro m ⟨i, vs⟩ wl fr0 ⟨hi, hi80, rfl, hk, nl⟩
  dsimp only at hi hi80 hk nl
  refine if_p (fun hlt => ?_) (fun hge => ?_)
  rotate_left
  · replace hge : ¬ (i : Int) < n := hge
    rw [fin i (.inl ⟨by omega, hi80⟩)] at hk
    exact ⟨g, q, vs, rfl, hk, nl⟩
  refine if_p (fun hlt2 => ?_) (fun hge2 => ?_)
  rotate_left
  · replace hge2 : ¬ (i : Int) < 80 := hge2
    rw [fin i (.inr (by omega))] at hk
    exact ⟨g, q, vs, rfl, hk, nl⟩
  replace hlt : (i : Int) < n := hlt
  replace hlt2 : (i : Int) < 80 := hlt2
  have hi' : i < acts.length := by omega
  obtain ⟨a, rfl, hcells⟩ := hd.at_ i (by simpa using hi')
  have hcell : ∀ k u, (acts[i].cells)[k]? = some u → wl.cell? ((a.add (i * 6)).add k) = some u := fun k u hu => nl.cell (hcells k u (by simpa using hu))
  have hinv := inv_runs (fresh 4) 0 inv_fresh (acts.take i)
  have hstep : runs (fresh 4) (acts.take (i + 1)) = act (runs (fresh 4) (acts.take i)) acts[i] := by rw [List.take_succ_eq_append_getElem hi', runs_snoc]
  rw [List.length_take, Nat.min_eq_left (by omega), Nat.zero_add] at hinv
  generalize acts[i] = ac at hcell hstep
  generalize runs (fresh 4) (acts.take i) = s at hk hinv hstep
  have e0 : (i : Int).toNat * 6 = i * 6 := by rw [Int.toNat_natCast]
  have goNext : ∀ (w6 : World) (vs' : Nat → Value), Dk w6 w.heap.size g q vs' (act s ac) → New w w6 → i + 1 ≤ n ∧ i + 1 ≤ 80 ∧ 80 - (i + 1) = 80 - (i + 1) ∧ Dk w6 w.heap.size g q vs' (runs (fresh 4) (acts.take (i + 1))) ∧ New w w6 := by
    intro w6 vs' h6 n6
    rw [hstep]
    exact ⟨by omega, by omega, rfl, h6, n6⟩
  refine And.intro (by omega) (And.intro hlt ?_)
  refine Exists.intro ac.d ?_
  refine And.intro (by rw [e0]; exact hcell 0 _ rfl) ?_
  refine call_ (Base.Among_ok ac.d 4 wl (by omega)) ?_
  rintro e w2 ⟨rfl, rfl⟩
  refine ⟨_, rfl, ?_⟩
  refine if_p (fun h3 => ?_) (fun h3 => ?_)
  · refine call_ (Barrier_ok w.heap.size g q vs s w2 hk (hinv.fine (by omega)) (by rw [hinv.len]; decide) (by rw [hinv.len]; decide) (hinv.lim (by omega))) ?_
    rintro e w3 ⟨rfl, vs', d3, m3, _⟩
    refine ⟨_, rfl, ?_⟩
    have ea : act s ac = barDS s := by unfold act; rw [if_pos h3]
    rw [← ea] at d3
    refine ⟨80 - (i + 1), (i + 1, vs'), by omega, ⟨rfl, rfl, ?_, trivial⟩, goNext w3 vs' d3 (hk.newD nl m3)⟩
    show Value.int .i64 (IntKind.i64.wrap _) = _
    rw [wrap_i64 (by omega) (by omega)]
    rfl
  · refine draw_ ok (.q 0 (.q 1 (.q 2 (.q 3 (.q 4 (.q 5 (.q 7 (.q 8 (.q 9 (.q 10 (.q 11 (.e 6 (.e 12 (.e 13 .done)))))))))))))) [13] (New w2) (by kernel_rfl) (by kernel_rfl) (by kernel_rfl) (by kernel_rfl) (by kernel_rfl) (New.drew _) ?_
    refine And.intro (by omega) (And.intro hlt ?_)
    refine Exists.intro ac.at_ ?_
    refine And.intro (fun w'' hw => by rw [e0]; exact hw.cell (hcell 1 _ rfl)) ?_
    refine And.intro (by omega) (And.intro hlt ?_)
    refine Exists.intro (ac.b.toNat : Int) ?_
    refine And.intro (fun w'' hw => by rw [e0]; exact hw.cell (hcell 3 _ rfl)) ?_
    refine call_ (Base.Among_ok ac.at_ 4 w2.drew (by omega)) ?_
    rintro e w3 ⟨rfl, rfl⟩
    refine ⟨_, rfl, ?_⟩
    refine Exists.intro (New w2) (And.intro (fun _ h => h) (And.intro (New.drew _) ?_))
    refine call_ (of_ok ac.b w2.drew) ?_
    rintro e w4 ⟨v4, rfl, own4, n4⟩
    obtain ⟨A4, c4, rfl, hc4, ht4, row4, hA4⟩ := own_slice own4
    refine ⟨_, rfl, ?_⟩
    have n24 := (New.drew w2).trans n4
    refine Exists.intro (New w2) (And.intro (fun _ h => h) (And.intro n24 ?_))
    have d4 := hk.new n24
    refine call_ (Store4_ok w.heap.size g q vs s ac.at_ ac.b A4 c4 w4 d4 hinv (by omega) row4 (fun b hb => hk.apart_new (hA4 b hb).1)) ?_
    rintro e w5 ⟨rfl, vs', d5, m5, _⟩
    refine ⟨_, rfl, ?_⟩
    have ea : act s ac = storeDS s (Base.among ac.at_ 4) (rep ac.b) := by unfold act; rw [if_neg h3]
    rw [← ea] at d5
    rw [← hinv.len] at m5
    refine ⟨80 - (i + 1), (i + 1, vs'), by omega, ⟨rfl, rfl, ?_, trivial⟩, goNext w5 vs' d5 (d4.newD (nl.trans n24) m5)⟩
    show Value.int .i64 (IntKind.i64.wrap _) = _
    rw [wrap_i64 (by omega) (by omega)]
    rfl
end Go.Proofs.YtgfdpojpcpgddaaDoor.Disk

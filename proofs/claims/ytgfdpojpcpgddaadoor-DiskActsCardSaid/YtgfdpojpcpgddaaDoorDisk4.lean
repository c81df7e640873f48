/- The package disk, walked: a move, a store; a value of one byte. -/
import Derived.Test.YtgfdpojpcpgddaaDoorDisk3
namespace Go.Proofs.YtgfdpojpcpgddaaDoor.Disk
open Go Go.Proofs.YtgfdpojpcpgddaaDoor Go.Proofs.YtgfdpojpcpgddaaDoor.Eng Go.Proofs
set_option maxRecDepth 10000

theorem rep_set (c : UInt8) (i : Nat) (h : i < 256) : (List.replicate i c ++ List.replicate (256 - i) 0).set i c = List.replicate (i + 1) c ++ List.replicate (256 - (i + 1)) 0 := by
  have e : List.replicate (256 - i) (0 : UInt8) = 0 :: List.replicate (256 - (i + 1)) 0 := by
    have : 256 - i = (256 - (i + 1)) + 1 := by omega
    rw [this, List.replicate_succ]
  rw [e, List.set_append_right _ _ (by simp), List.length_replicate, Nat.sub_self, List.set_cons_zero, List.replicate_succ', List.append_assoc]
  rfl
theorem of_ok (c : UInt8) (w : World) : Calls Tryd.prog 20 #[bv c] w fun e w' => ∃ v, e = .returned v ∧ w'.ownsRow w.heap.size 5 1 v 256 (bvs (List.replicate 256 c)) ∧ New w w' := by
  refine enter ok Tryd.func20 rfl rfl rfl ?_
  refine seq_assign (seq_ (region_ ?_))
  change evStep _ _ _ _ _ _ _ _
  change evOp Tryd.prog T F _ _ _ _
  unfold evOp evPure
  dsimp only
  refine make_ (n := 256) ok rfl rfl rfl rfl rfl rfl ?_ (by omega) rfl rfl ?_
  · show 1 * 256 ≤ _; omega
  intro w1 own1 n1
  have e0 : List.replicate 256 (Value.int .u8 0) = bvs (List.replicate 0 c ++ List.replicate (256 - 0) 0) := by
    rw [List.replicate_zero, List.nil_append, bvs_zero]
  have own1' : w1.ownsRow w.heap.size 5 1 (.slice (some ⟨w.heap.size, 0, none⟩) 256 256) 256 (bvs (List.replicate 0 c ++ List.replicate (256 - 0) 0)) := by rw [← e0]; exact own1
  refine den_loop (σ := Nat) (fun i => [(0, bv c), (3, .slice (some ⟨w.heap.size, 0, none⟩) 256 256), (4, .int .i64 i)])
    (fun m i wl => i ≤ 256 ∧ m = 256 - i ∧ wl.ownsRow w.heap.size 5 1 (.slice (some ⟨w.heap.size, 0, none⟩) 256 256) 256 (bvs (List.replicate i c ++ List.replicate (256 - i) 0)) ∧ New w wl) 256 0 ⟨rfl, rfl, rfl, trivial⟩ ⟨Nat.zero_le _, rfl, own1', n1⟩ ?_
  rintro m i wl fr1 ⟨hi, rfl, hown, hl⟩
  refine if_p (fun hlt => ?_) (fun hge => ?_)
  · have hlt' : i < 256 := by have : (i : Int) < ((256 : Nat) : Int) := hlt; omega
    have ex : (⟨w.heap.size, 0, none⟩ : Addr).add ((i : Int).toNat * 1) = ⟨w.heap.size, i, none⟩ := by rw [Nat.mul_one, Int.toNat_natCast, ad0]
    obtain ⟨hc, hf, hst⟩ := own_store hown i (by rw [bvs_length]; simp; omega)
    refine And.intro (by omega) (And.intro hlt (And.intro ⟨_, by rw [ex]; exact hc⟩ (And.intro (by rw [ex]; exact hf) ?_)))
    obtain ⟨own5, mod5⟩ := hst (bv c)
    rw [bvs_set, rep_set c i hlt'] at own5
    refine ⟨256 - (i + 1), i + 1, by omega, ⟨rfl, rfl, ?_, trivial⟩, by omega, rfl, ?_, ?_⟩
    · show Value.int .i64 (IntKind.i64.wrap _) = _
      rw [wrap_i64 (by omega) (by omega)]
      rfl
    · rw [ex]
      exact own5
    · rw [ex]
      exact Mod.trans hl mod5 fun b hb e => by omega
  · have hge' : ¬ (i : Int) < ((256 : Nat) : Int) := hge
    have : i = 256 := by omega
    subst this
    rw [Nat.sub_self, List.replicate_zero, List.append_nil] at hown
    exact ⟨_, rfl, hown, hl⟩

theorem moveS_ok (base g q : Nat) (vs : Nat → Value) (s : DS) (p3 p4 p5 : Addr) (w : World) (h : Dk w base g q vs s) (hf : s.fine) {R : World → Prop}
    (hdo : s.can = true → ∀ w1, Dk w1 base g q vs s.mv → Mod (fun b => b = g) w w1 → Calls Tryd.prog 44 #[.pointer (some p3), .pointer (some p4), .pointer (some p5)] w1 fun e w2 => e = .returned (.tuple #[]) ∧ R w2) :
    Calls Tryd.prog 42 #[.pointer (some ⟨g, 0, none⟩), .func (.func 44) #[] #[.pointer (some p3), .pointer (some p4), .pointer (some p5)]] w fun e w' => e = .returned (.int .i64 (if s.can = true then 0 else 10)) ∧ (s.can = true → R w') ∧ (s.can = false → Dk w' base g q vs s.mv ∧ Mod (fun b => b = g) w w') := by
  refine enter ok Tryd.func42 rfl rfl rfl ?_
  refine Exists.intro s.trip ?_
  refine And.intro (by rw [ad0]; exact h.c2) ?_
  refine if_p (fun ht => ?_) (fun ht => ?_)
  · have hcan : s.can = false := by simp [DS.can, ht]
    have hmv : s.mv = { s with gone := true } := by unfold DS.mv; rw [if_neg (by rw [hcan]; simp)]
    obtain ⟨h1, m1⟩ := h.set 3 (.bool true) { s with gone := true } rfl rfl
    refine And.intro ⟨_, by rw [ad0]; exact h.c3⟩ (And.intro (by rw [ad0]; exact h.fz 3) ?_)
    refine Exists.intro true ?_
    refine And.intro (by rw [ad0]; exact h1.c3) ?_
    rw [if_neg (by rw [hcan]; simp), hmv]
    refine ⟨rfl, (fun e => by rw [hcan] at e; cases e), fun _ => ?_⟩
    rw [ad0]
    exact ⟨h1, m1⟩
  · refine Exists.intro s.gone ?_
    refine And.intro (by rw [ad0]; exact h.c3) ?_
    refine if_ (fun hg => ?_) (fun hg => ?_)
    · have hcan : s.can = false := by simp [DS.can, hg]
      have hmv : s.mv = s := by
        unfold DS.mv
        rw [if_neg (by rw [hcan]; simp)]
        cases s
        simp only at hg
        subst hg
        rfl
      rw [if_neg (by rw [hcan]; simp), hmv]
      exact ⟨rfl, (fun e => by rw [hcan] at e; cases e), fun _ => ⟨h, Mod.refl _ _⟩⟩
    · have hcan : s.can = true := by simp [DS.can, hg, ht]
      have hmv : s.mv = { s with trip := max (s.trip - 1) (-1), moves := s.moves + 1 } := by unfold DS.mv; rw [if_pos hcan]
      have hf0 := hf.trip0
      have hf1 := hf.trip1
      have hf2 := hf.moves0
      have hf3 := hf.moves1
      have et : (if IntKind.i64.wrap (s.trip - 1) < -1 then (-1 : Int) else IntKind.i64.wrap (s.trip - 1)) = max (s.trip - 1) (-1) := by
        rw [wrap_i64 (by omega) (by omega)]
        split <;> omega
      have em : IntKind.i64.wrap (s.moves + 1) = s.moves + 1 := wrap_i64 (by omega) (by omega)
      obtain ⟨h1, m1⟩ := h.set 2 (.int .i64 (max (s.trip - 1) (-1))) { s with trip := max (s.trip - 1) (-1) } rfl rfl
      obtain ⟨h2, m2⟩ := h1.set 1 (.int .i64 (s.moves + 1)) { s with trip := max (s.trip - 1) (-1), moves := s.moves + 1 } rfl rfl
      refine Exists.intro s.trip ?_
      refine And.intro (by rw [ad0]; exact h.c2) ?_
      refine And.intro ⟨_, by rw [ad0]; exact h.c2⟩ (And.intro (by rw [ad0]; exact h.fz 2) ?_)
      refine Exists.intro s.moves ?_
      have h1' : Dk (w.setCell ((⟨g, 0, none⟩ : Addr).add 2) (.int .i64 (if IntKind.i64.wrap (s.trip - 1) < -1 then (-1 : Int) else IntKind.i64.wrap (s.trip - 1)))) base g q vs { s with trip := max (s.trip - 1) (-1) } := by rw [ad0, et]; exact h1
      have h2' : Dk ((w.setCell ((⟨g, 0, none⟩ : Addr).add 2) (.int .i64 (if IntKind.i64.wrap (s.trip - 1) < -1 then (-1 : Int) else IntKind.i64.wrap (s.trip - 1)))).setCell ((⟨g, 0, none⟩ : Addr).add 1) (.int .i64 (IntKind.i64.wrap (s.moves + 1)))) base g q vs s.mv := by rw [ad0, ad0, et, em, hmv]; exact h2
      have m2' : Mod (fun b => b = g) w ((w.setCell ((⟨g, 0, none⟩ : Addr).add 2) (.int .i64 (if IntKind.i64.wrap (s.trip - 1) < -1 then (-1 : Int) else IntKind.i64.wrap (s.trip - 1)))).setCell ((⟨g, 0, none⟩ : Addr).add 1) (.int .i64 (IntKind.i64.wrap (s.moves + 1)))) := by rw [ad0, ad0, et, em]; exact Mod.trans m1 m2 fun _ _ h => h
      refine And.intro (by rw [ad0 g 1]; exact h1'.c1) (And.intro ⟨_, by rw [ad0 g 1]; exact h1'.c1⟩ (And.intro (by rw [ad0 g 1]; exact h1'.fz 1) ?_))
      refine call_ (hdo hcan ((w.setCell ((⟨g, 0, none⟩ : Addr).add 2) (.int .i64 (if IntKind.i64.wrap (s.trip - 1) < -1 then (-1 : Int) else IntKind.i64.wrap (s.trip - 1)))).setCell ((⟨g, 0, none⟩ : Addr).add 1) (.int .i64 (IntKind.i64.wrap (s.moves + 1)))) h2' m2') ?_
      rintro e w3 ⟨rfl, hr⟩
      refine ⟨_, rfl, ?_⟩
      rw [if_pos hcan]
      exact ⟨rfl, fun _ => hr, fun e => by rw [hcan] at e; cases e⟩

theorem moveB_ok (base g q : Nat) (vs : Nat → Value) (s : DS) (p3 : Addr) (w : World) (h : Dk w base g q vs s) (hf : s.fine) {R : World → Prop}
    (hdo : s.can = true → ∀ w1, Dk w1 base g q vs s.mv → Mod (fun b => b = g) w w1 → Calls Tryd.prog 43 #[.pointer (some p3)] w1 fun e w2 => e = .returned (.tuple #[]) ∧ R w2) :
    Calls Tryd.prog 42 #[.pointer (some ⟨g, 0, none⟩), .func (.func 43) #[] #[.pointer (some p3)]] w fun e w' => e = .returned (.int .i64 (if s.can = true then 0 else 10)) ∧ (s.can = true → R w') ∧ (s.can = false → Dk w' base g q vs s.mv ∧ Mod (fun b => b = g) w w') := by
  refine enter ok Tryd.func42 rfl rfl rfl ?_
  refine Exists.intro s.trip ?_
  refine And.intro (by rw [ad0]; exact h.c2) ?_
  refine if_p (fun ht => ?_) (fun ht => ?_)
  · have hcan : s.can = false := by simp [DS.can, ht]
    have hmv : s.mv = { s with gone := true } := by unfold DS.mv; rw [if_neg (by rw [hcan]; simp)]
    obtain ⟨h1, m1⟩ := h.set 3 (.bool true) { s with gone := true } rfl rfl
    refine And.intro ⟨_, by rw [ad0]; exact h.c3⟩ (And.intro (by rw [ad0]; exact h.fz 3) ?_)
    refine Exists.intro true ?_
    refine And.intro (by rw [ad0]; exact h1.c3) ?_
    rw [if_neg (by rw [hcan]; simp), hmv]
    refine ⟨rfl, (fun e => by rw [hcan] at e; cases e), fun _ => ?_⟩
    rw [ad0]
    exact ⟨h1, m1⟩
  · refine Exists.intro s.gone ?_
    refine And.intro (by rw [ad0]; exact h.c3) ?_
    refine if_ (fun hg => ?_) (fun hg => ?_)
    · have hcan : s.can = false := by simp [DS.can, hg]
      have hmv : s.mv = s := by
        unfold DS.mv
        rw [if_neg (by rw [hcan]; simp)]
        cases s
        simp only at hg
        subst hg
        rfl
      rw [if_neg (by rw [hcan]; simp), hmv]
      exact ⟨rfl, (fun e => by rw [hcan] at e; cases e), fun _ => ⟨h, Mod.refl _ _⟩⟩
    · have hcan : s.can = true := by simp [DS.can, hg, ht]
      have hmv : s.mv = { s with trip := max (s.trip - 1) (-1), moves := s.moves + 1 } := by unfold DS.mv; rw [if_pos hcan]
      have hf0 := hf.trip0
      have hf1 := hf.trip1
      have hf2 := hf.moves0
      have hf3 := hf.moves1
      have et : (if IntKind.i64.wrap (s.trip - 1) < -1 then (-1 : Int) else IntKind.i64.wrap (s.trip - 1)) = max (s.trip - 1) (-1) := by
        rw [wrap_i64 (by omega) (by omega)]
        split <;> omega
      have em : IntKind.i64.wrap (s.moves + 1) = s.moves + 1 := wrap_i64 (by omega) (by omega)
      obtain ⟨h1, m1⟩ := h.set 2 (.int .i64 (max (s.trip - 1) (-1))) { s with trip := max (s.trip - 1) (-1) } rfl rfl
      obtain ⟨h2, m2⟩ := h1.set 1 (.int .i64 (s.moves + 1)) { s with trip := max (s.trip - 1) (-1), moves := s.moves + 1 } rfl rfl
      refine Exists.intro s.trip ?_
      refine And.intro (by rw [ad0]; exact h.c2) ?_
      refine And.intro ⟨_, by rw [ad0]; exact h.c2⟩ (And.intro (by rw [ad0]; exact h.fz 2) ?_)
      refine Exists.intro s.moves ?_
      have h1' : Dk (w.setCell ((⟨g, 0, none⟩ : Addr).add 2) (.int .i64 (if IntKind.i64.wrap (s.trip - 1) < -1 then (-1 : Int) else IntKind.i64.wrap (s.trip - 1)))) base g q vs { s with trip := max (s.trip - 1) (-1) } := by rw [ad0, et]; exact h1
      have h2' : Dk ((w.setCell ((⟨g, 0, none⟩ : Addr).add 2) (.int .i64 (if IntKind.i64.wrap (s.trip - 1) < -1 then (-1 : Int) else IntKind.i64.wrap (s.trip - 1)))).setCell ((⟨g, 0, none⟩ : Addr).add 1) (.int .i64 (IntKind.i64.wrap (s.moves + 1)))) base g q vs s.mv := by rw [ad0, ad0, et, em, hmv]; exact h2
      have m2' : Mod (fun b => b = g) w ((w.setCell ((⟨g, 0, none⟩ : Addr).add 2) (.int .i64 (if IntKind.i64.wrap (s.trip - 1) < -1 then (-1 : Int) else IntKind.i64.wrap (s.trip - 1)))).setCell ((⟨g, 0, none⟩ : Addr).add 1) (.int .i64 (IntKind.i64.wrap (s.moves + 1)))) := by rw [ad0, ad0, et, em]; exact Mod.trans m1 m2 fun _ _ h => h
      refine And.intro (by rw [ad0 g 1]; exact h1'.c1) (And.intro ⟨_, by rw [ad0 g 1]; exact h1'.c1⟩ (And.intro (by rw [ad0 g 1]; exact h1'.fz 1) ?_))
      refine call_ (hdo hcan ((w.setCell ((⟨g, 0, none⟩ : Addr).add 2) (.int .i64 (if IntKind.i64.wrap (s.trip - 1) < -1 then (-1 : Int) else IntKind.i64.wrap (s.trip - 1)))).setCell ((⟨g, 0, none⟩ : Addr).add 1) (.int .i64 (IntKind.i64.wrap (s.moves + 1)))) h2' m2') ?_
      rintro e w3 ⟨rfl, hr⟩
      refine ⟨_, rfl, ?_⟩
      rw [if_pos hcan]
      exact ⟨rfl, fun _ => hr, fun e => by rw [hcan] at e; cases e⟩


/-- What a store answers, and leaves. -/
def storeErr (s : DS) (at_ : Int) (n : Nat) : Int := if at_ < 0 ∨ (s.cs.length : Int) ≤ at_ ∨ n ≠ 256 then 2 else if s.can = true then 0 else 10
def storeDS (s : DS) (at_ : Int) (x : Sec) : DS := if at_ < 0 ∨ (s.cs.length : Int) ≤ at_ ∨ x.length ≠ 256 then s else if s.can = true then { s.mv with cs := s.cs.set at_.toNat ((s.cs.getD at_.toNat ⟨[], []⟩).put x) } else s.mv
theorem DS.mv_cs (s : DS) : s.mv.cs = s.cs := by
  unfold DS.mv
  split <;> rfl
theorem Store_ok (base g q : Nat) (vs : Nat → Value) (s : DS) (at_ : Int) (B : Option Addr) (n cb : Nat) (x : Sec) (w : World) (h : Dk w base g q vs s) (hf : s.fine) (hn : n = x.length) (hB : Row w B (bvs x)) (hn0 : 0 < s.cs.length) (hn4 : s.cs.length ≤ 4096)
    (hl : ∀ c ∈ s.cs, c.ws.length ≤ 100000) (hBo : ∀ b, B = some b → ¬ DSet g q s.cs.length vs b.block) (hbase : base ≤ w.heap.size) :
    Calls Tryd.prog 18 #[.pointer (some ⟨g, 0, none⟩), .int .i64 at_, .slice B n cb] w fun e w' => e = .returned (.int .i64 (storeErr s at_ n)) ∧
      ∃ vs', Dk w' base g q vs' (storeDS s at_ x) ∧ Mod (DSet g q s.cs.length vs) w w' ∧ ∀ b, DSet g q s.cs.length vs' b → DSet g q s.cs.length vs b ∨ w.heap.size ≤ b := by
  refine enter ok Tryd.func18 rfl rfl rfl ?_
  have n1 : New w (w.alloc (.cells #[.pointer (some ⟨g, 0, none⟩)] 25)) := New.alloc _ _
  have n2 := n1.trans (New.alloc (w.alloc (.cells #[.pointer (some ⟨g, 0, none⟩)] 25)) (.cells #[.int .i64 at_] 3))
  have n3 := n2.trans (New.alloc ((w.alloc (.cells #[.pointer (some ⟨g, 0, none⟩)] 25)).alloc (.cells #[.int .i64 at_] 3)) (.cells #[.slice B n cb] 22))
  have c3 : (((w.alloc (.cells #[.pointer (some ⟨g, 0, none⟩)] 25)).alloc (.cells #[.int .i64 at_] 3)).alloc (.cells #[.slice B n cb] 22)).cell? ⟨w.heap.size, 0, none⟩ = some (.pointer (some ⟨g, 0, none⟩)) :=
    ((New.alloc _ _).trans (New.alloc _ _)).cell (by rw [cell_of_row _ _ 0 _ _ _ (heap_alloc_new w _)]; rfl)
  have c4 : (((w.alloc (.cells #[.pointer (some ⟨g, 0, none⟩)] 25)).alloc (.cells #[.int .i64 at_] 3)).alloc (.cells #[.slice B n cb] 22)).cell? ⟨(w.alloc (.cells #[.pointer (some ⟨g, 0, none⟩)] 25)).heap.size, 0, none⟩ = some (.int .i64 at_) :=
    (New.alloc _ _).cell (by rw [cell_of_row _ _ 0 _ _ _ (heap_alloc_new _ _)]; rfl)
  have c5 : (((w.alloc (.cells #[.pointer (some ⟨g, 0, none⟩)] 25)).alloc (.cells #[.int .i64 at_] 3)).alloc (.cells #[.slice B n cb] 22)).cell? ⟨((w.alloc (.cells #[.pointer (some ⟨g, 0, none⟩)] 25)).alloc (.cells #[.int .i64 at_] 3)).heap.size, 0, none⟩ = some (.slice B n cb) := by
    rw [cell_of_row _ _ 0 _ _ _ (heap_alloc_new _ _)]; rfl
  have hw3s : (((w.alloc (.cells #[.pointer (some ⟨g, 0, none⟩)] 25)).alloc (.cells #[.int .i64 at_] 3)).alloc (.cells #[.slice B n cb] 22)).heap.size = w.heap.size + 3 := by simp
  have hs1 : (w.alloc (.cells #[.pointer (some ⟨g, 0, none⟩)] 25)).heap.size = w.heap.size + 1 := by simp
  have hs2 : ((w.alloc (.cells #[.pointer (some ⟨g, 0, none⟩)] 25)).alloc (.cells #[.int .i64 at_] 3)).heap.size = w.heap.size + 2 := by simp
  refine Exists.intro (some ⟨g, 0, none⟩) ?_
  refine And.intro c3 ?_
  refine call_ (Count_ok base g q vs s (((w.alloc (.cells #[.pointer (some ⟨g, 0, none⟩)] 25)).alloc (.cells #[.int .i64 at_] 3)).alloc (.cells #[.slice B n cb] 22)) (h.new n3)) ?_
  rintro e w1 ⟨rfl, hw1⟩
  rw [← hw1] at c3 c4 c5 n3 hw3s
  clear hw1 n1 n2
  refine ⟨_, rfl, ?_⟩
  have h1 := h.new n3
  have hlt := h.lt
  refine if_p (fun h0 => absurd h0 (by omega)) (fun _ => ?_)
  have bad : (at_ < 0 ∨ (s.cs.length : Int) ≤ at_ ∨ n ≠ 256) → ∀ w', New w w' → Ending.returned (.int .i64 2) = .returned (.int .i64 (storeErr s at_ n)) ∧ ∃ vs', Dk w' base g q vs' (storeDS s at_ x) ∧ Mod (DSet g q s.cs.length vs) w w' ∧ ∀ b, DSet g q s.cs.length vs' b → DSet g q s.cs.length vs b ∨ w.heap.size ≤ b := by
    intro hb w' nw
    unfold storeErr storeDS
    rw [← hn, if_pos hb, if_pos hb]
    exact ⟨rfl, vs, h.new nw, nw.mod, fun b hb => .inl hb⟩
  refine Exists.intro at_ ?_
  refine And.intro c4 ?_
  refine if_p (fun h2 => ?_) (fun h2 => ?_)
  · exact bad (.inl h2) _ n3
  refine Exists.intro at_ ?_
  refine And.intro c4 ?_
  refine if_p (fun h4 => ?_) (fun h4 => ?_)
  · exact bad (.inr (.inl h4)) _ n3
  refine Exists.intro B (Exists.intro n (Exists.intro cb ?_))
  refine And.intro c5 ?_
  refine if_n (fun h5 => ?_) (fun h5 => ?_)
  · exact bad (.inr (.inr (by omega))) _ n3
  obtain ⟨i, rfl⟩ : ∃ i : Nat, at_ = i := ⟨at_.toNat, by omega⟩
  have hil : i < s.cs.length := by omega
  have hi := List.getElem?_eq_getElem hil
  have hx : x.length = 256 := by omega
  have hn256 : n = 256 := by omega
  subst hn256
  refine Exists.intro (some ⟨g, 0, none⟩) ?_
  refine And.intro c3 ?_
  have hgood : ¬ ((i : Int) < 0 ∨ (s.cs.length : Int) ≤ i ∨ 256 ≠ 256) := by omega
  have hgood2 : ¬ ((i : Int) < 0 ∨ (s.cs.length : Int) ≤ i ∨ x.length ≠ 256) := by omega
  have hvi : ∀ b, some b = (vs i).ownBlock → b < w.heap.size := fun b e => (hlt b (.inr (.inr ⟨i, hil, e.symm⟩))).2
  have hne1 : ∀ b, b < w.heap.size → ¬ (w.alloc (.cells #[.pointer (some ⟨g, 0, none⟩)] 25)).heap.size = b := fun b hb e => by rw [hs1] at e; omega
  have hne2 : ∀ b, b < w.heap.size → ¬ ((w.alloc (.cells #[.pointer (some ⟨g, 0, none⟩)] 25)).alloc (.cells #[.int .i64 (i : Int)] 3)).heap.size = b := fun b hb e => by rw [hs2] at e; omega
  refine call_ (moveS_ok base g q vs s _ _ _ w1 h1 hf (R := fun w' => ∃ v', Dk w' base g q (fun j => if j = i then v' else vs j) { s.mv with cs := s.cs.set i (s.cs[i].put x) } ∧ Mod (fun b => b = g ∨ QS q (vs i) b) w1 w' ∧ stayed w1 (vs i) v') ?_) ?_
  · intro hcan w2 h2 m2
    have hmi : s.mv.cs[i]? = some s.cs[i] := by rw [DS.mv_cs]; exact hi
    have e := S1_ok base g q i vs s.mv s.cs[i] ⟨w.heap.size, 0, none⟩ ⟨(w.alloc (.cells #[.pointer (some ⟨g, 0, none⟩)] 25)).heap.size, 0, none⟩ ⟨((w.alloc (.cells #[.pointer (some ⟨g, 0, none⟩)] 25)).alloc (.cells #[.int .i64 (i : Int)] 3)).heap.size, 0, none⟩ B cb x w2 h2 hmi (m2.cell c3 (fun e => Nat.ne_of_gt (hlt g (.inl rfl)).2 e)) (m2.cell c4 (fun e => hne1 g (hlt g (.inl rfl)).2 e)) (m2.cell c5 (fun e => hne2 g (hlt g (.inl rfl)).2 e))
      (hB.new n3 |>.mod m2 (fun a ha e => hBo a ha (.inl e))) hx (hl _ (List.getElem_mem hil)) (by have := m2.size; have := n3.size; omega) (fun e => Nat.lt_irrefl _ (hvi _ e)) (fun e => hne1 _ (hvi _ e) rfl) (fun e => hne2 _ (hvi _ e) rfl) (fun b hb e => hBo b hb (.inr (.inr ⟨i, hil, e.symm⟩)))
    refine Calls.mono e ?_
    rintro e w4 ⟨rfl, v', hd, m4, st⟩
    rw [DS.mv_cs] at hd
    refine ⟨rfl, v', hd, Mod.trans (m2.mono fun b _ e => .inl e) m4 (fun b _ e => .inr e), fun b hb => ?_⟩
    rcases st b hb with e | e
    · exact .inl e
    · exact .inr (Nat.le_trans m2.size e)
  rintro e w5 ⟨rfl, r1, r2⟩
  refine ⟨_, rfl, ?_⟩
  unfold storeErr storeDS
  rw [if_neg hgood, if_neg hgood2, Int.toNat_natCast]
  by_cases hcan : s.can = true
  · obtain ⟨v', hd, m5, st⟩ := r1 hcan
    rw [if_pos hcan, if_pos hcan]
    have hgd : s.cs.getD i ⟨[], []⟩ = s.cs[i] := by rw [List.getD_eq_getElem?_getD, hi]; rfl
    rw [hgd]
    refine ⟨rfl, _, hd, Mod.trans n3.mod m5 (fun b hb e => ?_), ?_⟩
    · rcases e with e | e | e
      · exact .inl e
      · exact .inr (.inl e)
      · exact .inr (.inr ⟨i, hil, e.symm⟩)
    · rintro b (e | e | ⟨j, hj, e⟩)
      · exact .inl (.inl e)
      · exact .inl (.inr (.inl e))
      · by_cases hji : j = i
        · simp only [if_pos hji] at e
          rcases st b e with e | e
          · exact .inl (.inr (.inr ⟨i, hil, e⟩))
          · exact .inr (Nat.le_trans n3.size e)
        · simp only [if_neg hji] at e
          exact .inl (.inr (.inr ⟨j, hj, e⟩))
  · have hcf : s.can = false := by simpa using hcan
    obtain ⟨hd, m5⟩ := r2 hcf
    rw [if_neg hcan, if_neg hcan]
    exact ⟨rfl, vs, hd, Mod.trans n3.mod m5 (fun b hb e => .inl e), fun b hb => .inl hb⟩
end Go.Proofs.YtgfdpojpcpgddaaDoor.Disk

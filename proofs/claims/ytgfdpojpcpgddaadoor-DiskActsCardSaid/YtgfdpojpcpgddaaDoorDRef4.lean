/- The document's disk, walked: fetched, tripped, what waits, dumped. -/
import Derived.Test.YtgfdpojpcpgddaaDoorDRef3
namespace Go.Proofs.YtgfdpojpcpgddaaDoor.Disk
open Go Go.Proofs.YtgfdpojpcpgddaaDoor Go.Proofs.YtgfdpojpcpgddaaDoor.Eng Go.Proofs
set_option maxRecDepth 10000

theorem RFetch_ok (base g q vc : Nat) (L : List Value) (s : DS) (at_ : Int) (w : World) (h : Rk w base g q vc L s) (hn4 : s.cs.length ≤ 4096) (hl : ∀ c ∈ s.cs, c.ws.length ≤ 100000) :
    Calls Tryd.prog 29 #[.pointer (some ⟨g, 0, none⟩), .int .i64 at_] w fun e w' => ∃ A c, e = .returned (.tuple #[.slice A (fetchBs s at_).length c, .int .i64 (fetchErr s at_)]) ∧ Row w' A (bvs (fetchBs s at_)) ∧ New w w' := by
  refine enter ok Tryd.func29 rfl rfl rfl ?_
  have no : ∀ x : Int, fetchErr s at_ = x → x ≠ 0 → ∃ A c, Ending.returned (.tuple #[.slice none 0 0, .int .i64 x]) = .returned (.tuple #[.slice A (fetchBs s at_).length c, .int .i64 (fetchErr s at_)]) ∧ Row w A (bvs (fetchBs s at_)) ∧ New w w := by
    intro x hx hne
    have : fetchBs s at_ = [] := by unfold fetchBs; rw [hx, if_neg hne]
    rw [this, hx]
    exact ⟨none, 0, rfl, Row.nil _ _, New.refl _⟩
  refine if_p (fun h1 => ?_) (fun h1 => ?_)
  · exact no 2 (by unfold fetchErr; rw [if_pos (.inl h1)]) (by decide)
  refine Exists.intro (some ⟨q, 0, none⟩) (Exists.intro s.cs.length (Exists.intro vc ?_))
  refine And.intro (by rw [ad0]; exact h.c0) ?_
  refine if_p (fun h2 => ?_) (fun h2 => ?_)
  · exact no 2 (by unfold fetchErr; rw [if_pos (.inr h2)]) (by decide)
  replace h1 : ¬ at_ < 0 := h1
  replace h2 : ¬ (s.cs.length : Int) ≤ at_ := h2
  refine Exists.intro s.gone ?_
  refine And.intro (by rw [ad0]; exact h.c3) ?_
  have hrange : ¬ (at_ < 0 ∨ (s.cs.length : Int) ≤ at_) := by omega
  refine if_ (fun hg => ?_) (fun hg => ?_)
  · exact no 10 (by unfold fetchErr; rw [if_neg hrange, if_pos hg]) (by decide)
  have he0 : fetchErr s at_ = 0 := by unfold fetchErr; rw [if_neg hrange, if_neg (by rw [hg]; simp)]
  obtain ⟨i, rfl⟩ : ∃ i : Nat, at_ = i := ⟨at_.toNat, by omega⟩
  have hil : i < s.cs.length := by omega
  have hbs : fetchBs s i = s.cs[i].now := by
    unfold fetchBs
    rw [if_pos he0, Int.toNat_natCast, List.getD_eq_getElem?_getD, List.getElem?_eq_getElem hil]
    rfl
  rw [he0, hbs]
  have hnl := (h.oks _ (List.getElem_mem hil)).now
  refine call_ (RLast_ok base g q vc L s i hil w h (hl _ (List.getElem_mem hil))) ?_
  rintro e w2 ⟨rfl, n2⟩
  refine ⟨_, rfl, ?_⟩
  refine str_bytes_ ok rfl rfl rfl rfl rfl rfl rfl (by omega) ?_
  intro c w3 hc1 hc2 hrow n3 _
  exact ⟨_, _, rfl, hrow, n2.trans n3⟩

theorem RTrip_ok (base g q vc : Nat) (L : List Value) (s : DS) (n : Int) (w : World) (h : Rk w base g q vc L s) :
    Calls Tryd.prog 31 #[.pointer (some ⟨g, 0, none⟩), .int .i64 n] w fun e w' => e = .returned (.tuple #[]) ∧ Rk w' base g q vc L { s with trip := max n (-1) } ∧ Mod (fun b => b = g) w w' := by
  refine enter ok Tryd.func31 rfl rfl rfl ?_
  have et : (if n < -1 then (-1 : Int) else n) = max n (-1) := by split <;> omega
  obtain ⟨h1, m1⟩ := h.set 2 (.int .i64 (max n (-1))) { s with trip := max n (-1) } rfl rfl
  refine And.intro ⟨_, by rw [ad0]; exact h.c2⟩ (And.intro (by rw [ad0]; exact h.fz 2) ?_)
  refine ⟨rfl, ?_, ?_⟩
  · rw [ad0, et]; exact h1
  · rw [ad0, et]; exact m1

theorem RCached_ok (base g q vc : Nat) (L : List Value) (s : DS) (w : World) (h : Rk w base g q vc L s) (hn4 : s.cs.length ≤ 4096) :
    Calls Tryd.prog 36 #[.pointer (some ⟨g, 0, none⟩)] w fun e w' => ∃ v, e = .returned v ∧ w'.ownsRow w.heap.size 3 1 v (cached s.cs).length (nvs (cached s.cs)) ∧ New w w' := by
  refine enter ok Tryd.func36 rfl rfl rfl ?_
  have own0 := own_lit w [] 3 1 0 w.heap.size (Nat.le_refl _) rfl (by omega)
  have n0 := New.alloc w (.cells #[] 3)
  refine den_loop (σ := Nat × Option Addr × Nat) (fun t => [(0, .pointer (some ⟨g, 0, none⟩)), (3, .slice t.2.1 (waitTo s.cs t.1).length t.2.2), (4, .int .i64 t.1)])
    (fun m t wl => t.1 ≤ s.cs.length ∧ m = s.cs.length - t.1 ∧ wl.ownsRow w.heap.size 3 1 (.slice t.2.1 (waitTo s.cs t.1).length t.2.2) (waitTo s.cs t.1).length (nvs (waitTo s.cs t.1)) ∧ New w wl) s.cs.length (0, some ⟨w.heap.size, 0, none⟩, 0) ⟨rfl, rfl, rfl, trivial⟩ ⟨Nat.zero_le _, rfl, own0, n0⟩ ?_
  rintro m ⟨i, A, c⟩ wl fr1 ⟨hi, rfl, hown, hm⟩
  dsimp only at hi hown hm
  have hd := h.new hm
  have hwl := waitTo_le s.cs i
  refine Exists.intro (some ⟨q, 0, none⟩) (Exists.intro s.cs.length (Exists.intro vc ?_))
  refine And.intro (by rw [ad0]; exact hd.c0) ?_
  refine if_p (fun hlt => ?_) (fun hge => ?_)
  · replace hlt : (i : Int) < s.cs.length := hlt
    have hil : i < s.cs.length := by omega
    obtain ⟨A2, m2, hcell, _⟩ := hd.sec i hil
    have hvl := vals_len s.cs[i]
    have ex : (⟨q, 0, none⟩ : Addr).add ((i : Int).toNat * 1) = ⟨q, i, none⟩ := by rw [Nat.mul_one, Int.toNat_natCast, ad0]
    refine Exists.intro (some ⟨q, 0, none⟩) (Exists.intro s.cs.length (Exists.intro vc ?_))
    refine And.intro (by rw [ad0]; exact hd.c0) ?_
    refine And.intro (by omega) (And.intro hlt ?_)
    refine Exists.intro A2 (Exists.intro (vals s.cs[i]).length (Exists.intro m2 ?_))
    refine And.intro (by rw [ex]; exact hcell) ?_
    have hg : s.cs.getD i ⟨[], []⟩ = s.cs[i] := by rw [List.getD_eq_getElem?_getD, List.getElem?_eq_getElem hil]; rfl
    have hstep : waitTo s.cs (i + 1) = waitTo s.cs i ++ (if 0 < s.cs[i].ws.length then [i] else []) := by
      unfold waitTo
      rw [List.range_succ, List.filter_append]
      congr 1
      simp only [List.filter_cons, List.filter_nil, hg]
      by_cases hp : 0 < s.cs[i].ws.length
      · rw [if_pos (decide_eq_true hp), if_pos hp]
      · rw [if_neg (by simpa using hp), if_neg hp]
    refine if_p (fun hne => ?_) (fun he => ?_)
    · replace hne : (1 : Int) < (vals s.cs[i]).length := hne
      rw [if_pos (by omega)] at hstep
      have a1 := New.alloc wl (.cells #[.int .i64 (i : Int)] 3)
      have hrow : Row (wl.alloc (.cells #[.int .i64 (i : Int)] 3)) (some ⟨wl.heap.size, 0, none⟩) (ivs [(i : Int)]) := row_alloc wl [.int .i64 (i : Int)] _ _
      have hs2 := hm.size
      refine append2_ ok rfl rfl rfl rfl (own_new a1 hown) rfl rfl hrow rfl (ivs_one _) (by decide) rfl (by show ((waitTo s.cs i).length + 1) * 8 ≤ _; omega) (by omega) (by simp; omega) ?_
      intro A3 c3 w3 own3 mod3 st3
      have n3 := Mod.trans (hm.trans a1) mod3 (fun b hb e => by have := (hown.lt b e.symm).1; omega)
      have el : (waitTo s.cs (i + 1)).length = (waitTo s.cs i).length + 1 := by rw [hstep]; simp
      have en : nvs (waitTo s.cs (i + 1)) = nvs (waitTo s.cs i) ++ ivs [(i : Int)] := by rw [hstep]; simp [nvs, ivs]
      refine ⟨s.cs.length - (i + 1), (i + 1, A3, c3), by omega, ⟨rfl, ?_, ?_, trivial⟩, by show i + 1 ≤ _; omega, rfl, ?_, n3⟩
      · show Value.slice A3 ((waitTo s.cs i).length + 1) c3 = .slice A3 (waitTo s.cs (i + 1)).length c3
        rw [el]
      · show Value.int .i64 (IntKind.i64.wrap _) = _
        rw [wrap_i64 (by omega) (by omega)]
        rfl
      · show w3.ownsRow w.heap.size 3 1 (.slice A3 (waitTo s.cs (i + 1)).length c3) (waitTo s.cs (i + 1)).length (nvs (waitTo s.cs (i + 1)))
        rw [el, en]
        exact own3
    · replace he : ¬ (1 : Int) < (vals s.cs[i]).length := he
      rw [if_neg (by omega), List.append_nil] at hstep
      refine ⟨s.cs.length - (i + 1), (i + 1, A, c), by omega, ⟨rfl, ?_, ?_, trivial⟩, by show i + 1 ≤ _; omega, rfl, ?_, hm⟩
      · show Value.slice A (waitTo s.cs i).length c = .slice A (waitTo s.cs (i + 1)).length c
        rw [hstep]
      · show Value.int .i64 (IntKind.i64.wrap _) = _
        rw [wrap_i64 (by omega) (by omega)]
        rfl
      · show wl.ownsRow w.heap.size 3 1 (.slice A (waitTo s.cs (i + 1)).length c) (waitTo s.cs (i + 1)).length (nvs (waitTo s.cs (i + 1)))
        rw [hstep]
        exact hown
  · replace hge : ¬ (i : Int) < s.cs.length := hge
    have : i = s.cs.length := by omega
    subst this
    exact ⟨_, rfl, hown, hm⟩

theorem RDump_ok (base g q vc : Nat) (L : List Value) (s : DS) (w : World) (h : Rk w base g q vc L s) (hn4 : s.cs.length ≤ 4096) (hl : ∀ c ∈ s.cs, c.ws.length ≤ 100000) :
    Calls Tryd.prog 37 #[.pointer (some ⟨g, 0, none⟩)] w fun e w' => ∃ v, e = .returned v ∧ w'.ownsRow w.heap.size 5 1 v (dump s.cs).length (bvs (dump s.cs)) ∧ New w w' := by
  refine enter ok Tryd.func37 rfl rfl rfl ?_
  have own0 := own_lit w [] 5 1 0 w.heap.size (Nat.le_refl _) rfl (by omega)
  have n0 := New.alloc w (.cells #[] 5)
  refine den_loop (σ := Nat × Option Addr × Nat) (fun t => [(0, .pointer (some ⟨g, 0, none⟩)), (3, .slice t.2.1 (dump (s.cs.take t.1)).length t.2.2), (4, .int .i64 t.1)])
    (fun m t wl => t.1 ≤ s.cs.length ∧ m = s.cs.length - t.1 ∧ wl.ownsRow w.heap.size 5 1 (.slice t.2.1 (dump (s.cs.take t.1)).length t.2.2) (dump (s.cs.take t.1)).length (bvs (dump (s.cs.take t.1))) ∧ New w wl) s.cs.length (0, some ⟨w.heap.size, 0, none⟩, 0) ⟨rfl, rfl, rfl, trivial⟩ ⟨Nat.zero_le _, rfl, own0, n0⟩ ?_
  rintro m ⟨i, A, c⟩ wl fr1 ⟨hi, rfl, hown, hm⟩
  dsimp only at hi hown hm
  have hd := h.new hm
  refine Exists.intro (some ⟨q, 0, none⟩) (Exists.intro s.cs.length (Exists.intro vc ?_))
  refine And.intro (by rw [ad0]; exact hd.c0) ?_
  refine if_p (fun hlt => ?_) (fun hge => ?_)
  · replace hlt : (i : Int) < s.cs.length := hlt
    have hil : i < s.cs.length := by omega
    have hnl := (h.oks _ (List.getElem_mem hil)).now
    have hdl := dump_len (s.cs.take i) (fun c hc => h.oks c (List.mem_of_mem_take hc))
    rw [List.length_take, Nat.min_eq_left hi] at hdl
    have hdt := dump_take s.cs i hil
    refine call_ (RLast_ok base g q vc L s i hil wl hd (hl _ (List.getElem_mem hil))) ?_
    rintro e w2 ⟨rfl, n2⟩
    refine ⟨_, rfl, ?_⟩
    have hs2 := hm.size
    have hs3 := n2.size
    refine append_str_ ok rfl rfl rfl rfl rfl rfl rfl rfl rfl (own_new n2 hown) rfl rfl (by omega) (by omega) ?_
    intro A3 c3 w3 own3 mod3
    have n3 : New w w3 := Mod.trans (hm.trans n2) mod3 (fun b hb e => by have := (hown.lt b e.symm).1; omega)
    have el : (dump (s.cs.take (i + 1))).length = (dump (s.cs.take i)).length + (s.cs[i].now).length := by rw [hdt, List.length_append]
    refine ⟨s.cs.length - (i + 1), (i + 1, A3, c3), by omega, ⟨rfl, ?_, ?_, trivial⟩, by show i + 1 ≤ _; omega, rfl, ?_, n3⟩
    · show Value.slice A3 ((dump (s.cs.take i)).length + (s.cs[i].now).length) c3 = .slice A3 (dump (s.cs.take (i + 1))).length c3
      rw [el]
    · show Value.int .i64 (IntKind.i64.wrap _) = _
      rw [wrap_i64 (by omega) (by omega)]
      rfl
    · show w3.ownsRow w.heap.size 5 1 (.slice A3 (dump (s.cs.take (i + 1))).length c3) (dump (s.cs.take (i + 1))).length (bvs (dump (s.cs.take (i + 1))))
      rw [el, hdt, bvs_append]
      exact own3
  · replace hge : ¬ (i : Int) < s.cs.length := hge
    have : i = s.cs.length := by omega
    subst this
    rw [List.take_length] at hown
    refine ⟨_, rfl, ?_, hm⟩
    show wl.ownsRow w.heap.size 5 1 (.slice A (dump (s.cs.take s.cs.length)).length c) _ _
    rw [List.take_length]
    exact hown
end Go.Proofs.YtgfdpojpcpgddaaDoor.Disk

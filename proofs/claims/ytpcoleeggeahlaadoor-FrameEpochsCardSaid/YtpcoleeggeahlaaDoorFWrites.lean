/- The statement FrameWrites, walked. -/
import Derived.Test.YtpcoleeggeahlaaDoorFSmall
import Derived.Test.YtpcoleeggeahlaaDoorFOpen
namespace Go.Proofs.YtpcoleeggeahlaaDoor.Frame
open Go Go.Proofs.YtpcoleeggeahlaaDoor Go.Proofs.YtpcoleeggeahlaaDoor.Eng Go.Proofs Go.Proofs.YtpcoleeggeahlaaDoor.Sum
set_option maxRecDepth 10000

theorem recs_one (l : List Rec) : ∀ u ∈ (l.map recC).flatten, u.oneCell' = true := by
  intro u hu
  obtain ⟨cs, hcs, huc⟩ := List.mem_flatten.1 hu
  obtain ⟨r, _, rfl⟩ := List.mem_map.1 hcs
  exact recC_one r u huc
theorem recs_flen (l : List Rec) : (l.map recC).flatten.length = l.length * 2 := by
  induction l with
  | nil => rfl
  | cons r l ih => rw [List.map_cons, List.flatten_cons, List.length_append, ih, List.length_cons]; show 2 + _ = _; omega
theorem FrameWrites_ok (A : Option Addr) (n c : Nat) (l : List Rec) (w : World) (ht : tbl w) (hn : n = l.length) (hc : n ≤ c) (hcm : c ≤ 9223372036854775807) (hr : Rows2 w A 2 (l.map recC)) (ho : n * 24 ≤ 140737488351232 ∧ ∀ x ∈ l, RecOk x) :
    Calls Tryd.prog 4 #[.slice A n c] w fun e w' => e = .returned (.bool true) ∧ New w w' := by
  refine enter ok Tryd.func4 rfl rfl rfl ?_
  refine den_loop (σ := Nat × Int) (fun t => [(0, .slice A n c), (3, .int .i64 t.2), (4, .int .i64 t.1)])
    (fun m t wl => t.1 ≤ n ∧ m = n - t.1 ∧ 0 ≤ t.2 ∧ t.2 ≤ t.1 * 5000 ∧ New w wl) n (0, 0) ⟨rfl, rfl, rfl, trivial⟩ ⟨Nat.zero_le _, rfl, Int.le_refl _, Int.le_refl _, New.refl _⟩ ?_
  rintro m ⟨k, z⟩ wl fr0 ⟨hk, rfl, hz0, hz1, nl⟩
  dsimp only at hk hz0 hz1 nl
  refine if_p (fun hlt => ?_) (fun hge => ?_)
  · replace hlt : (k : Int) < n := hlt
    have hkl : k < l.length := by omega
    obtain ⟨a, rfl, hcells⟩ := hr.at_ k (by simpa using hkl)
    have hcell : ∀ j u, (recC l[k])[j]? = some u → wl.cell? ((a.add (k * 2)).add j) = some u := fun j u hu => nl.cell (hcells j u (by simpa using hu))
    generalize l[k] = r at hcell
    have c1 := hcell 1 _ rfl
    refine And.intro (by omega) (And.intro hlt ?_)
    refine Exists.intro (⟨r.d.toArray⟩ : ByteArray) ?_
    refine And.intro (by rw [Int.toNat_natCast]; exact c1) ?_
    obtain ⟨q, hq, q0, q1⟩ : ∃ q : Int, (if (5000 : Int) < ((ByteArray.mk r.d.toArray).size : Int) then (5000 : Int) else ((ByteArray.mk r.d.toArray).size : Int)) = q ∧ 0 ≤ q ∧ q ≤ 5000 :=
      ⟨_, rfl, by rw [size_str]; split <;> omega, by rw [size_str]; split <;> omega⟩
    refine ⟨n - (k + 1), (k + 1, z + q), by omega, ⟨rfl, ?_, ?_, trivial⟩, by show k + 1 ≤ n; omega, rfl, by show 0 ≤ z + q; omega, by show z + q ≤ ((k + 1 : Nat) : Int) * 5000; omega, nl⟩
    · show Value.int .i64 (IntKind.i64.wrap (z + if (5000 : Int) < ((ByteArray.mk r.d.toArray).size : Int) then (5000 : Int) else ((ByteArray.mk r.d.toArray).size : Int))) = Value.int .i64 (z + q)
      rw [hq, wrap_i64 (by omega) (by omega)]
    · show Value.int .i64 (IntKind.i64.wrap _) = _
      rw [wrap_i64 (by omega) (by omega)]
      rfl
  refine if_p (fun h1 => ?_) (fun h1 => ?_)
  · exact ⟨rfl, nl⟩
  refine if_p (fun h2 => ?_) (fun h2 => ?_)
  · exact ⟨rfl, nl⟩
  replace h2 : ¬ (n : Int) > 100 := h2
  have a1 := New.alloc wl (.cells #[] 23)
  refine append2_ ok rfl rfl rfl rfl (own_lit wl [] 23 2 0 wl.heap.size (Nat.le_refl _) rfl (by omega)) rfl rfl (row_of_rows2 ((hr.new nl).new a1)) (by rw [recs_flen, hn]) (recs_one l) (by decide) rfl (by show (0 + n) * 24 ≤ _; omega) (by omega) (by simp) ?_
  intro A2 c2 w2 own2 mod2 _
  replace h2 : ¬ (100 : Int) < n := h2
  have k2 : New w w2 := Mod.trans (nl.trans a1) mod2 (fun b hb e => by have e' : b = wl.heap.size := Option.some.inj e; have := nl.size; omega)
  have rows2 : Rows2 w2 A2 2 (l.map recC) := by
    obtain ⟨_, _, he, _, _, row, _⟩ := own_slice own2
    cases he
    exact rows2_of_row (recC_len l) (by decide) row
  have hr2 := hr.new k2
  rw [Nat.zero_add] at own2 ⊢
  refine call_ (All_ok A2 n c2 l w2 (ht.new k2) hn rows2 (by omega)) ?_
  rintro e w3 ⟨v3, rfl, own3, n3⟩
  obtain ⟨A3, c3, rfl, hc3, hm3, row3, _⟩ := own_slice own3
  refine ⟨_, rfl, ?_⟩
  have k3 := k2.trans n3
  refine call_ (refAll_ok A n c l w3 hn (hr.new k3) (by omega)) ?_
  rintro e w4 ⟨v4, rfl, own4, n4⟩
  obtain ⟨A4, c4, rfl, hc4, hm4, row4, _⟩ := own_slice own4
  refine ⟨_, rfl, ?_⟩
  have k4 := k3.trans n4
  refine call_ (Base.SameBytes_ok A3 A4 (allBs l).length c3 (allBs l).length c4 (allBs l) (allBs l) w4 rfl rfl (row3.new n4) row4) ?_
  rintro e w5 ⟨rfl, rfl⟩
  refine ⟨_, rfl, ?_⟩
  refine if_n (fun h => absurd rfl h) (fun _ => ?_)
  refine if_n (fun h => absurd rfl h) (fun _ => ?_)
  refine den_loop (σ := Nat) (fun i => [(0, .slice A n c), (9, .int .i64 i)]) (fun m i wx => i ≤ n ∧ m = n - i ∧ New w wx) n 0 ⟨rfl, rfl, trivial⟩ ⟨Nat.zero_le _, rfl, k4⟩ ?_
  rintro m i wx fr1 ⟨hi, rfl, nx⟩
  refine if_p (fun hlt => ?_) (fun hge => ?_)
  rotate_left
  · refine call_ (works_ok wx (ht.new nx)) ?_
    rintro e w6 ⟨rfl, n6⟩
    exact ⟨_, rfl, rfl, nx.trans n6⟩
  replace hlt : (i : Int) < n := hlt
  have hil : i < l.length := by omega
  obtain ⟨a, rfl, hcells⟩ := hr.at_ i (by simpa using hil)
  have hcell : ∀ {wy : World}, New w wy → ∀ j u, (recC l[i])[j]? = some u → wy.cell? ((a.add ((i : Int).toNat * 2)).add j) = some u := fun ny j u hu => by rw [Int.toNat_natCast]; exact ny.cell (hcells j u (by simpa using hu))
  generalize l[i] = r at hcell
  refine And.intro (by omega) (And.intro hlt ?_)
  refine loadN_row (vs := recC r) (hcell nx) rfl ?_
  refine call_ (Write_ok r wx (ht.new nx)) ?_
  rintro e w6 ⟨v6, rfl, own6, n6⟩
  obtain ⟨A6, c6, rfl, _, _, row6, _⟩ := own_slice own6
  refine ⟨_, rfl, ?_⟩
  have k6 := nx.trans n6
  refine And.intro (by omega) (And.intro hlt ?_)
  refine loadN_row (vs := recC r) (hcell k6) rfl ?_
  refine call_ (refWrite_ok r w6) ?_
  rintro e w7 ⟨v7, rfl, own7, n7⟩
  obtain ⟨A7, c7, rfl, _, _, row7, _⟩ := own_slice own7
  refine ⟨_, rfl, ?_⟩
  have k7 := k6.trans n7
  refine call_ (Base.SameBytes_ok A6 A7 (writeBs r).length c6 (writeBs r).length c7 (writeBs r) (writeBs r) w7 rfl rfl (row6.new n7) row7) ?_
  rintro e w8 ⟨rfl, rfl⟩
  refine ⟨_, rfl, ?_⟩
  refine if_n (fun h => absurd rfl h) (fun _ => ?_)
  refine if_n (fun h => absurd rfl h) (fun _ => ?_)
  refine And.intro (by omega) (And.intro hlt ?_)
  refine loadN_row (vs := recC r) (hcell k7) rfl ?_
  refine call_ (Size_ok r w8 (ht.new k7)) ?_
  rintro e w9 ⟨rfl, n9⟩
  refine ⟨_, rfl, ?_⟩
  refine if_n (fun h => absurd rfl h) (fun _ => ?_)
  refine ⟨n - (i + 1), i + 1, by omega, ⟨rfl, ?_, trivial⟩, by omega, rfl, k7.trans n9⟩
  show Value.int .i64 (IntKind.i64.wrap _) = _
  rw [wrap_i64 (by omega) (by omega)]
  rfl
end Go.Proofs.YtpcoleeggeahlaaDoor.Frame

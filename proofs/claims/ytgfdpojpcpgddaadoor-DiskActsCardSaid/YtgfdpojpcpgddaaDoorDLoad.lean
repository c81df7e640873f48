/- The package disk, walked: a disk of bytes. -/
import Derived.Test.YtgfdpojpcpgddaaDoorDWhole
namespace Go.Proofs.YtgfdpojpcpgddaaDoor.Disk
open Go Go.Proofs.YtgfdpojpcpgddaaDoor Go.Proofs.YtgfdpojpcpgddaaDoor.Eng Go.Proofs
set_option maxRecDepth 10000

theorem storeN_at {a : Addr} {g j : Nat} {t : TypeId} {K : World → Prop} {vs : List Value} {w : World} {arr : Array Value} (h0 : a = ⟨g, j, none⟩) (hg : w.heap[g]? = some (.cells arr t (0, 0))) (hb : j + vs.length ≤ arr.size) (h1 : ∀ v ∈ vs, v.oneCell' = true)
    (hk : ∀ w', w'.heap[g]? = some (.cells (arr.toList.take j ++ vs ++ arr.toList.drop (j + vs.length)).toArray t (0, 0)) → Mod (fun k => k = g) w w' → w'.heap.size = w.heap.size → K w') : storeN a vs 0 w K := by
  subst h0
  exact storeN_row hg hb h1 hk
theorem Make_err (n : Int) (w : World) (hn : n < 1 ∨ 4096 < n) : Calls Tryd.prog 23 #[.int .i64 n] w fun e w' => e = .returned (.tuple #[.pointer none, .int .i64 2]) ∧ w' = w := by
  refine enter ok Tryd.func23 rfl rfl rfl ?_
  refine if_p (fun h => ⟨rfl, rfl⟩) (fun h1 => ?_)
  refine if_p (fun h => ⟨rfl, rfl⟩) (fun h2 => ?_)
  omega
/-- A sector's sure value, set, where nothing waits. -/
theorem Dk.sured {w w2 : World} {base g q i : Nat} {vs : Nat → Value} {s : DS} {c : Cl} {x : Sec} (h : Dk w base g q vs s) (hi : s.cs[i]? = some c) (hx : x.length = 256) (m : Mod (fun b => b = q) w w2)
    (harr : ∃ a, w2.heap[q]? = some (.cells a 73 (0, 0)) ∧ a.size = s.cs.length * 257) (hget : ∀ y, w2.cell? ⟨q, y, none⟩ = if y < i * 257 + 1 then w.cell? ⟨q, y, none⟩ else if y < i * 257 + 1 + 256 then (bvs x)[y - (i * 257 + 1)]? else w.cell? ⟨q, y, none⟩) :
    Dk w2 base g q vs { s with cs := s.cs.set i ⟨c.ws, x⟩ } := by
  have hil := (List.getElem?_eq_some_iff.1 hi).1
  have hca := h.each i c hi
  have hvs : (fun j => if j = i then vs i else vs j) = vs := by
    funext j
    by_cases hj : j = i
    · rw [if_pos hj, hj]
    · rw [if_neg hj]
  have := h.update (c' := ⟨c.ws, x⟩) (v' := vs i) hi m (fun b hb => .inl hb) (fun b hb => .inl hb) harr (fun y hy => by
    rw [hget]
    by_cases h1 : y < i * 257 + 1
    · rw [if_pos h1]
    · rw [if_neg h1, if_neg (by omega)]) ⟨by rw [hget, if_pos (by omega)]; exact hca.wait, fun k u hu => by
      have hk := (List.getElem?_eq_some_iff.1 hu).1
      have hk' : k < 256 := by rw [bvs_length] at hk; exact hx ▸ hk
      rw [hget, if_neg (by omega), if_pos (by omega)]
      have : i * 257 + 1 + k - (i * 257 + 1) = k := by omega
      rw [this]
      exact hu, own_mod m hca.own (fun b hb e => (h.off i hil b hb).2 e), ⟨hx, hca.ok.ws⟩⟩
  rw [hvs] at this
  exact this
def cutAt (bs : List UInt8) (i : Nat) : Sec := (bs.drop (i * 256)).take 256
/-- The disk's sectors when the first few are laid. -/
def laid (bs : List UInt8) (n i : Nat) : DS := ⟨(List.range n).map fun j => ⟨[], if j < i then cutAt bs j else rep 0⟩, 0, -1, false⟩
theorem laid_get (bs : List UInt8) (n i j : Nat) (h : j < n) : (laid bs n i).cs[j]? = some ⟨[], if j < i then cutAt bs j else rep 0⟩ := by
  simp [laid, h]
theorem laid_len (bs : List UInt8) (n i : Nat) : (laid bs n i).cs.length = n := by simp [laid]
theorem laid_set (bs : List UInt8) (n i : Nat) (h : i < n) : { laid bs n i with cs := (laid bs n i).cs.set i ⟨[], cutAt bs i⟩ } = laid bs n (i + 1) := by
  have : (laid bs n i).cs.set i ⟨[], cutAt bs i⟩ = (laid bs n (i + 1)).cs := by
    apply List.ext_getElem?
    intro j
    by_cases hj : j < n
    · rw [laid_get bs n (i + 1) j hj, List.getElem?_set]
      by_cases hji : i = j
      · subst hji
        rw [if_pos rfl, if_pos (by rw [laid_len]; exact h), if_pos (by omega)]
      · rw [if_neg hji, laid_get bs n i j hj]
        by_cases h1 : j < i
        · rw [if_pos h1, if_pos (by omega)]
        · rw [if_neg h1, if_neg (by omega)]
    · rw [List.getElem?_eq_none (by rw [List.length_set, laid_len]; omega), List.getElem?_eq_none (by rw [laid_len]; omega)]
  rw [this]
  rfl
theorem laid_zero (bs : List UInt8) (n : Nat) : fresh n = laid bs n 0 := by
  unfold fresh laid
  congr 1
  apply List.ext_getElem?
  intro j
  show (List.replicate n (⟨[], rep 0⟩ : Cl))[j]? = _
  by_cases hj : j < n
  · rw [List.getElem?_replicate, if_pos hj, List.getElem?_map, List.getElem?_range hj]
    rfl
  · rw [List.getElem?_eq_none (by rw [List.length_replicate]; omega), List.getElem?_eq_none (by rw [List.length_map, List.length_range]; omega)]
theorem laid_idle (bs : List UInt8) (n i : Nat) : Idle (laid bs n i) := by
  intro c hc
  obtain ⟨j, _, rfl⟩ := List.mem_map.1 hc
  rfl
theorem cuts : ∀ (n : Nat) (bs : List UInt8), bs.length = n * 256 → ((List.range n).map (cutAt bs)).flatten = bs
  | 0, bs, h => by
    have : bs = [] := List.eq_nil_of_length_eq_zero (by omega)
    subst this
    rfl
  | n + 1, bs, h => by
    have ih := cuts n (bs.take (n * 256)) (by rw [List.length_take]; omega)
    rw [List.range_succ, List.map_append, List.flatten_append]
    have e1 : (List.range n).map (cutAt bs) = (List.range n).map (cutAt (bs.take (n * 256))) := by
      apply List.map_congr_left
      intro j hj
      have hj' := List.mem_range.1 hj
      unfold cutAt
      rw [List.drop_take, List.take_take, Nat.min_eq_left (by omega)]
    rw [e1, ih]
    have e2 : ([n].map (cutAt bs)).flatten = bs.drop (n * 256) := by
      simp [cutAt]
      rw [List.take_of_length_le (by rw [List.length_drop]; omega)]
    rw [e2, List.take_append_drop]
theorem laid_dump (bs : List UInt8) (n : Nat) (h : bs.length = n * 256) : dump (laid bs n n).cs = bs := by
  rw [dump_idle (laid_idle bs n n)]
  have : sures (laid bs n n) = (List.range n).map (cutAt bs) := by
    unfold sures laid
    rw [List.map_map]
    apply List.map_congr_left
    intro j hj
    have hj' := List.mem_range.1 hj
    simp [hj']
  rw [this]
  exact cuts n bs h
def good (n : Nat) : Prop := 256 ≤ n ∧ n < 1048832 ∧ n % 256 = 0
theorem Load_ok (A : Option Addr) (n c : Nat) (bs : List UInt8) (w : World) (hn : n = bs.length) (hr : Row w A (bvs bs)) (hc : n ≤ c) (ht : c ≤ 9223372036854775807) :
    Calls Tryd.prog 10 #[.slice A n c] w fun e w' => New w w' ∧ ((¬ good n ∧ e = .returned (.tuple #[.pointer none, .int .i64 2])) ∨ (good n ∧ ∃ g q vs, e = .returned (.tuple #[.pointer (some ⟨g, 0, none⟩), .int .i64 0]) ∧ Dk w' w.heap.size g q vs (laid bs (n / 256) (n / 256)))) := by
  refine enter ok Tryd.func10 rfl rfl rfl ?_
  have ediv : IntKind.i64.wrap ((n : Int).tdiv 256) = ((n / 256 : Nat) : Int) := by
    rw [Int.tdiv_eq_ediv_of_nonneg (by omega), wrap_i64 (by omega) (by omega)]
    omega
  have erem : (n : Int).tmod 256 = ((n % 256 : Nat) : Int) := by
    rw [Int.tmod_eq_emod_of_nonneg (by omega)]
    omega
  refine And.intro (by decide) ?_
  by_cases hbad : n / 256 < 1 ∨ 4096 < n / 256
  · have hM := Make_err (n / 256 : Nat) w (by omega)
    rw [← ediv] at hM
    refine call_ hM ?_
    rintro e w1 ⟨rfl, rfl⟩
    refine ⟨_, rfl, ?_⟩
    exact ⟨New.refl _, .inl ⟨by rintro ⟨h1, h2, h3⟩; omega, rfl⟩⟩
  have hM := Make_ok (n / 256) w (by omega) (by omega)
  rw [← ediv] at hM
  refine call_ hM ?_
  rintro e w1 ⟨g, q, rfl, d1, n1⟩
  refine ⟨_, rfl, ?_⟩
  refine And.intro (by decide) ?_
  refine if_n (fun hne => ?_) (fun he => ?_)
  · rw [erem] at hne
    exact ⟨n1, .inl ⟨by rintro ⟨h1, h2, h3⟩; omega, rfl⟩⟩
  rw [erem] at he
  have hgood : good n := ⟨by omega, by omega, by omega⟩
  rw [laid_zero bs] at d1
  generalize hN : n / 256 = N at d1 hbad
  have hnN : n = N * 256 := by omega
  refine Exists.intro (some ⟨q, 0, none⟩) (Exists.intro N (Exists.intro N ?_))
  have hc0 := d1.c0
  rw [laid_len] at hc0
  refine And.intro (by rw [ad0]; exact hc0) ?_
  refine den_loop (σ := Nat) (fun i => [(0, .slice A n c), (4, .pointer (some ⟨g, 0, none⟩)), (26, .int .i64 N), (27, .int .i64 i)])
    (fun m i wl => i ≤ N ∧ m = N - i ∧ Dk wl w.heap.size g q (fun _ => .slice none 0 0) (laid bs N i) ∧ New w wl) N 0 ⟨rfl, rfl, rfl, rfl, trivial⟩ ⟨Nat.zero_le _, rfl, d1, n1⟩ ?_
  rintro m i wl fr1 ⟨hi, rfl, hk, nl⟩
  refine if_p (fun hlt => ?_) (fun hge => ?_)
  rotate_left
  · have : i = N := by omega
    subst this
    exact ⟨nl, .inr ⟨hgood, g, q, _, rfl, hk⟩⟩
  have hil : i < N := by omega
  have hget := laid_get bs N i i hil
  have hca := hk.each i _ hget
  have hc0' := hk.c0
  rw [laid_len] at hc0'
  obtain ⟨a, ha, hs⟩ := hk.arr
  rw [laid_len] at hs
  have ex : (⟨q, 0, none⟩ : Addr).add ((i : Int).toNat * 257) = ⟨q, i * 257, none⟩ := by rw [Int.toNat_natCast, ad0]
  have e1 : IntKind.i64.wrap ((i : Int) * 256) = ((i * 256 : Nat) : Int) := by rw [wrap_i64 (by omega) (by omega)]; omega
  have hcl : (cutAt bs i).length = 256 := by unfold cutAt; rw [List.length_take, List.length_drop]; omega
  have hrow := row_cut (hr.new nl) (show bs.length ≤ c by omega) (i * 256) 256
  refine draw_ ok (.q 0 (.q 1 (.q 2 (.q 3 (.q 4 (.q 5 (.q 6 (.q 7 (.q 8 (.q 9 (.q 10 (.q 11 (.q 12 (.e 13 .done)))))))))))))) [13] (New wl) (by kernel_rfl) (by kernel_rfl) (by kernel_rfl) (by kernel_rfl) (by kernel_rfl) (New.drew _) ?_
  refine Exists.intro (some ⟨q, 0, none⟩) (Exists.intro N (Exists.intro N ?_))
  refine And.intro (fun w'' hw => by rw [ad0]; exact hw.cell hc0') ?_
  refine And.intro (by rw [e1]; omega) (And.intro (by rw [e1]; omega) ?_)
  refine Exists.intro (.pointer (slA A c (IntKind.i64.wrap ((i : Int) * 256)).toNat 1)) ?_
  refine And.intro (fun w'' _ => s2a_run ok rfl rfl rfl rfl (by show 256 ≤ n - (IntKind.i64.wrap ((i : Int) * 256)).toNat; rw [e1]; omega) w'') ?_
  obtain ⟨b, hb, _⟩ := hrow 0 _ (List.getElem?_eq_getElem (by rw [bvs_length]; unfold cutAt at hcl; omega))
  have e1' : (IntKind.i64.wrap ((i : Int) * 256)).toNat = i * 256 := by rw [e1, Int.toNat_natCast]
  refine some_at (by rw [e1']; exact hb) ?_
  refine loadNC_row (vs := bvs (cutAt bs i)) (fun k u hu w'' hw => ?_) (by rw [bvs_length]; exact hcl) ?_
  · obtain ⟨b', hb', hc'⟩ := hrow k u hu
    rw [hb] at hb'
    cases hb'
    exact hw.cell hc'
  refine And.intro (by omega) (And.intro (by omega) ?_)
  refine And.intro (by show (bvs (cutAt bs i)).toArray.size = 256; simp [bvs_length, hcl]) ?_
  refine storeN_at (g := q) (j := i * 257 + 1) (vs := bvs (cutAt bs i)) (w := wl.drew) (arr := a) (by rw [ex, ad1]) ha (by rw [bvs_length, hcl]; omega) (bvs_one _) ?_
  intro w2 hb2 m2 hs2
  have hgt : ∀ y, w2.cell? ⟨q, y, none⟩ = if y < i * 257 + 1 then wl.drew.cell? ⟨q, y, none⟩ else if y < i * 257 + 1 + 256 then (bvs (cutAt bs i))[y - (i * 257 + 1)]? else wl.drew.cell? ⟨q, y, none⟩ := by
    intro y
    have := splice_get a.toList (bvs (cutAt bs i)) (i * 257 + 1) y (by rw [bvs_length, hcl]; simp; omega)
    have hcl' : (bvs (cutAt bs i)).length = 256 := by rw [bvs_length]; exact hcl
    rw [hcl'] at this
    rw [cell_of_row _ _ _ _ _ _ hb2, List.getElem?_toArray, hcl', this, cell_of_row _ _ _ _ _ _ (show wl.drew.heap[q]? = _ from ha)]
    simp
  have hd2 := (hk.new (New.drew wl)).sured hget hcl m2 ⟨_, hb2, by rw [laid_len]; simp [bvs_length, hcl]; omega⟩ hgt
  rw [laid_set bs N i hil] at hd2
  refine ⟨N - (i + 1), i + 1, by omega, ⟨rfl, rfl, rfl, ?_, trivial⟩, by omega, rfl, hd2, ?_⟩
  · show Value.int .i64 (IntKind.i64.wrap _) = _
    rw [wrap_i64 (by omega) (by omega)]
    rfl
  · exact Mod.trans (nl.trans (New.drew wl)) m2 fun b hb e => by
      have := (hk.lt q (.inr (.inl rfl))).1
      omega
end Go.Proofs.YtgfdpojpcpgddaaDoor.Disk

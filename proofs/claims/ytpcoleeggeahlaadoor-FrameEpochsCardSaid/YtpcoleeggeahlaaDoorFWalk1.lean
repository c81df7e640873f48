/- The package frame, walked: numbers, a record written, many. -/
import Derived.Test.YtpcoleeggeahlaaDoorFMath
import Derived.Test.YtpcoleeggeahlaaDoorWMath
import Derived.Test.YtpcoleeggeahlaaDoorStr
import Derived.Test.YtpcoleeggeahlaaDoorOpenW
namespace Go.Proofs.YtpcoleeggeahlaaDoor.Frame
open Go Go.Proofs.YtpcoleeggeahlaaDoor Go.Proofs.YtpcoleeggeahlaaDoor.Eng Go.Proofs Go.Proofs.YtpcoleeggeahlaaDoor.Sum
set_option maxRecDepth 10000

theorem ad1 (g i j : Nat) : (⟨g, i, none⟩ : Addr).add j = ⟨g, i + j, none⟩ := add_lit0 g i j
theorem ad0 (g j : Nat) : (⟨g, 0, none⟩ : Addr).add j = ⟨g, j, none⟩ := by rw [ad1, Nat.zero_add]
theorem bvs_one (bs : List UInt8) : ∀ u ∈ bvs bs, u.oneCell' = true := by
  intro u hu
  obtain ⟨b, _, rfl⟩ := List.mem_map.1 hu
  rfl
theorem row_cut {w : World} {A : Option Addr} {bs : List UInt8} {c : Nat} (hr : Row w A (bvs bs)) (hc : bs.length ≤ c) (i n : Nat) : Row w (slA A c i 1) (bvs ((bs.drop i).take n)) := by
  have h := (Row.cut hr c i 1 (by rw [bvs_length]; omega)).take n
  rw [Nat.mul_one] at h
  unfold bvs at h ⊢
  rw [List.map_take, List.map_drop]
  exact h
theorem number_ok (A : Option Addr) (n c : Nat) (bs : List UInt8) (at_ : Nat) (w : World) (hn : n = bs.length) (hr : Row w A (bvs bs)) (hc : n ≤ c) (ht : c ≤ 9223372036854775807) (hat : at_ + 4 ≤ n) :
    Calls Tryd.prog 21 #[.slice A n c, .int .i64 at_] w fun e w' => e = .returned (.int .i64 (num bs at_)) ∧ w' = w := by
  refine enter ok Tryd.func21 rfl rfl rfl ?_
  have e1 : IntKind.i64.wrap ((at_ : Int) + 4) = ((at_ + 4 : Nat) : Int) := by rw [wrap_i64 (by omega) (by omega)]; omega
  refine And.intro (by omega) (And.intro (by rw [e1]; omega) (And.intro (by rw [e1]; omega) ?_))
  have hrow := row_cut hr (show bs.length ≤ c by omega) at_ 4
  have hl : ((bs.drop at_).take 4).length = 4 := by rw [List.length_take, List.length_drop]; omega
  have hlt := num_lt bs at_
  unfold num at hlt ⊢
  generalize (bs.drop at_).take 4 = win at hrow hl hlt
  refine den_loop (σ := Nat) (fun i => [(5, .int .i64 ((win.take i).foldl (fun n x => n * 256 + x.toNat) 0 : Nat)), (12, .slice (slA A c at_ 1) 4 (c - at_)), (13, .int .i64 4), (14, .int .i64 i)])
    (fun m i w' => i ≤ 4 ∧ m = 4 - i ∧ w' = w) 4 0 ⟨rfl, ?_, ?_, rfl, trivial⟩ ⟨Nat.zero_le _, rfl, rfl⟩ ?_
  · show Value.slice (slA A c (at_ : Int).toNat 1) ((IntKind.i64.wrap ((at_ : Int) + 4)).toNat - (at_ : Int).toNat) (c - (at_ : Int).toNat) = _
    rw [e1, Int.toNat_natCast, Int.toNat_natCast, Nat.add_sub_cancel_left]
  · show Value.int .i64 (((IntKind.i64.wrap ((at_ : Int) + 4)).toNat - (at_ : Int).toNat : Nat) : Int) = _
    rw [e1, Int.toNat_natCast, Int.toNat_natCast, Nat.add_sub_cancel_left]
    rfl
  rintro m i w' fr0 ⟨hi, rfl, rfl⟩
  refine if_p (fun hlt2 => ?_) (fun hge => ?_)
  · replace hlt2 : (i : Int) < 4 := hlt2
    have hil : i < win.length := by omega
    have hg := bvs_get win i hil
    obtain ⟨a, ha, hcell⟩ := hrow i _ hg
    have hstep : win.take (i + 1) = win.take i ++ [win[i]] := List.take_succ_eq_append_getElem hil
    have hsmall : (win.take i).foldl (fun n x => n * 256 + x.toNat) 0 < 2 ^ 24 := by
      have hlen : (win.take i).length ≤ 3 := by rw [List.length_take]; omega
      generalize win.take i = l at hlen
      match l, hlen with
      | [], _ => decide
      | [a], _ => have := a.toNat_lt; simp only [List.foldl_cons, List.foldl_nil]; omega
      | [a, b], _ => have := a.toNat_lt; have := b.toNat_lt; simp only [List.foldl_cons, List.foldl_nil]; omega
      | [a, b, c], _ => have := a.toNat_lt; have := b.toNat_lt; have := c.toNat_lt; simp only [List.foldl_cons, List.foldl_nil]; omega
    have hx := win[i].toNat_lt
    rw [ha]
    refine And.intro (by omega) (And.intro hlt2 ?_)
    refine Exists.intro (win[i].toNat : Int) ?_
    refine And.intro (by rw [Nat.mul_one, Int.toNat_natCast]; exact hcell) ?_
    refine And.intro (by decide) ?_
    refine ⟨4 - (i + 1), i + 1, by omega, ⟨?_, rfl, rfl, ?_, trivial⟩, by omega, rfl, rfl⟩
    · rw [hstep, List.foldl_append, List.foldl_cons, List.foldl_nil]
      generalize (win.take i).foldl (fun n x => n * 256 + x.toNat) 0 = y at hsmall
      show Value.int .i64 (bits .or .i64 (IntKind.i64.wrap ((y : Int) * 2 ^ 8)) (IntKind.i64.wrap (win[i].toNat : Int))) = _
      rw [Word.or_shl_i (y : Int) y win[i].toNat (by rw [wrap_i64 (by omega) (by omega)]) hx (by omega), wrap_i64 (by omega) (by omega)]
    · show Value.int .i64 (IntKind.i64.wrap _) = _
      rw [wrap_i64 (by omega) (by omega)]
      rfl
  · replace hge : ¬ (i : Int) < 4 := hge
    have : i = 4 := by omega
    subst this
    rw [List.take_of_length_le (by omega)]
    exact ⟨rfl, rfl⟩

/-- Byte j of four. -/
def by4 (n j : Nat) : UInt8 := UInt8.ofNat (n / 2 ^ (24 - 8 * j))
theorem by4_all (n : Nat) : be4 n = [by4 n 0, by4 n 1, by4 n 2, by4 n 3] := by simp [be4, by4]
theorem u8_shr (n k : Nat) : IntKind.u8.wrap ((n : Int) / 2 ^ k) = ((UInt8.ofNat (n / 2 ^ k)).toNat : Int) := by
  have e : (n : Int) / 2 ^ k = ((n / 2 ^ k : Nat) : Int) := by simp
  rw [e, IntKind.wrap_u8, UInt8.toNat_ofNat']
  omega
theorem numbers_ok (A : Option Addr) (n c : Nat) (zs : List Nat) (w : World) (hn : n = zs.length) (hr : Row w A (ivs (zs.map fun (z : Nat) => (z : Int)))) (hm : n ≤ 1000) (hz : ∀ z ∈ zs, z < 2 ^ 32) :
    Calls Tryd.prog 20 #[.slice A n c] w fun e w' => ∃ v, e = .returned v ∧ w'.ownsRow w.heap.size 5 1 v (zs.flatMap be4).length (bvs (zs.flatMap be4)) ∧ New w w' := by
  refine enter ok Tryd.func20 rfl rfl rfl ?_
  have hlen : ∀ k, k ≤ zs.length → ((zs.take k).flatMap be4).length = 4 * k := by
    intro k hk
    induction k with
    | zero => rfl
    | succ k ih =>
      rw [List.take_succ_eq_append_getElem hk, List.flatMap_append, List.length_append, ih (by omega)]
      simp [be4_len]
      omega
  refine den_loop (σ := Nat × Option Addr × Nat) (fun t => [(3, .slice t.2.1 (4 * t.1) t.2.2), (7, .slice A n c), (8, .int .i64 n), (9, .int .i64 t.1)])
    (fun m t wl => t.1 ≤ n ∧ m = n - t.1 ∧ wl.ownsRow w.heap.size 5 1 (.slice t.2.1 (4 * t.1) t.2.2) (4 * t.1) (bvs ((zs.take t.1).flatMap be4)) ∧ New w wl) n (0, none, 0) ⟨rfl, rfl, rfl, rfl, trivial⟩ ⟨Nat.zero_le _, rfl, ⟨rfl, .inl ⟨rfl, rfl⟩⟩, New.refl _⟩ ?_
  rintro m ⟨k, A3, c3⟩ wl fr0 ⟨hk, rfl, hown, nl⟩
  dsimp only at hk hown nl
  refine if_p (fun hlt => ?_) (fun hge => ?_)
  rotate_left
  · replace hge : ¬ (k : Int) < n := hge
    have : k = n := by omega
    subst this
    have hl := hlen k (by omega)
    rw [show zs.take k = zs by rw [hn]; exact List.take_length] at hown hl
    rw [← hl] at hown
    refine ⟨_, rfl, ?_, nl⟩
    rw [← hl]
    exact hown
  replace hlt : (k : Int) < n := hlt
  have hkl : k < zs.length := by omega
  have hstep : zs.take (k + 1) = zs.take k ++ [zs[k]] := List.take_succ_eq_append_getElem hkl
  have hzk := hz _ (List.getElem_mem hkl)
  have hg : (ivs (zs.map fun (z : Nat) => (z : Int)))[k]? = some (.int .i64 zs[k]) := by simp [ivs, hkl]
  obtain ⟨a, rfl, hcell⟩ := hr.new nl k _ hg
  generalize zs[k] = z at hstep hzk hcell
  refine And.intro (by omega) (And.intro hlt ?_)
  refine Exists.intro (z : Int) ?_
  refine And.intro (by rw [Nat.mul_one, Int.toNat_natCast]; exact hcell) ?_
  have h4 : ((zs.take k).flatMap be4).length = 4 * k := hlen k (by omega)
  generalize hpre : (zs.take k).flatMap be4 = pre at hown h4
  refine den_loop (σ := Nat × Option Addr × Nat) (fun t => [(3, .slice t.2.1 (4 * k + t.1) t.2.2), (5, .int .i64 z), (6, .int .i64 (24 - 8 * (t.1 : Int))), (7, .slice (some a) n c), (8, .int .i64 n), (9, .int .i64 k)])
    (fun m t wx => t.1 ≤ 4 ∧ m = 4 - t.1 ∧ wx.ownsRow w.heap.size 5 1 (.slice t.2.1 (4 * k + t.1) t.2.2) (4 * k + t.1) (bvs (pre ++ (be4 z).take t.1)) ∧ New w wx) 4 (0, A3, c3) ⟨rfl, rfl, rfl, rfl, rfl, rfl, trivial⟩ ⟨Nat.zero_le _, rfl, ?_, nl⟩ ?_
  · show wl.ownsRow w.heap.size 5 1 (.slice A3 (4 * k + 0) c3) (4 * k + 0) (bvs (pre ++ (be4 z).take 0))
    rw [List.take_zero, List.append_nil]
    exact hown
  rintro m ⟨j, A4, c4⟩ wx fr1 ⟨hj, rfl, hox, nx⟩
  dsimp only at hj hox nx
  refine if_p (fun hlt2 => ?_) (fun hge2 => ?_)
  · replace hlt2 : (0 : Int) ≤ 24 - 8 * (j : Int) := hlt2
    have hj4 : j < 4 := by omega
    have ej : (24 - 8 * (j : Int)).toNat = 24 - 8 * j := by omega
    have hb : Value.int .u8 (IntKind.u8.wrap ((z : Int) / 2 ^ min (24 - 8 * (j : Int)).toNat IntKind.i64.bits)) = bv (by4 z j) := by
      rw [ej, show IntKind.i64.bits = 64 from rfl, Nat.min_eq_left (by omega), u8_shr]
      rfl
    have a1 := New.alloc wx (.cells #[.int .u8 (IntKind.u8.wrap ((z : Int) / 2 ^ min (24 - 8 * (j : Int)).toNat IntKind.i64.bits))] 5)
    have hrow : Row (wx.alloc (.cells #[.int .u8 (IntKind.u8.wrap ((z : Int) / 2 ^ min (24 - 8 * (j : Int)).toNat IntKind.i64.bits))] 5)) (some ⟨wx.heap.size, 0, none⟩) (bvs [by4 z j]) := by
      rw [hb]
      exact row_alloc wx [bv (by4 z j)] _ _
    refine And.intro hlt2 ?_
    have hsz := nx.size
    refine append2_ ok rfl rfl rfl rfl (own_new a1 hox) rfl rfl hrow rfl (bvs_one _) (by decide) rfl (by show (4 * k + j + 1) * 1 ≤ _; omega) (by omega) (by simp; omega) ?_
    intro A5 c5 w5 own5 mod5 st5
    have n5 := Mod.trans (nx.trans a1) mod5 (fun b hb e => by have := (hox.lt b e.symm).1; omega)
    refine ⟨4 - (j + 1), (j + 1, A5, c5), by omega, ⟨rfl, rfl, ?_, rfl, rfl, rfl, trivial⟩, by show j + 1 ≤ 4; omega, rfl, ?_, n5⟩
    · show Value.int .i64 (IntKind.i64.wrap _) = .int .i64 (24 - 8 * ((j + 1 : Nat) : Int))
      rw [wrap_i64 (by omega) (by omega)]
      congr 1
      omega
    · show w5.ownsRow w.heap.size 5 1 (.slice A5 (4 * k + j + 1) c5) (4 * k + j + 1) (bvs (pre ++ (be4 z).take (j + 1)))
      have ht : (be4 z).take (j + 1) = (be4 z).take j ++ [by4 z j] := by
        rw [by4_all]
        match j, hj4 with
        | 0, _ => rfl
        | 1, _ => rfl
        | 2, _ => rfl
        | 3, _ => rfl
      rw [ht, ← List.append_assoc, bvs_append]
      exact own5
  · replace hge2 : ¬ (0 : Int) ≤ 24 - 8 * (j : Int) := hge2
    have hj4 : j = 4 := by omega
    subst hj4
    refine ⟨n - (k + 1), (k + 1, A4, c4), by omega, ⟨?_, rfl, rfl, ?_, trivial⟩, by show k + 1 ≤ n; omega, rfl, ?_, nx⟩
    · show Value.slice A4 (4 * k + 4) c4 = .slice A4 (4 * (k + 1)) c4
      rw [show 4 * (k + 1) = 4 * k + 4 by omega]
    · show Value.int .i64 (IntKind.i64.wrap _) = _
      rw [wrap_i64 (by omega) (by omega)]
      rfl
    · show wx.ownsRow w.heap.size 5 1 (.slice A4 (4 * (k + 1)) c4) (4 * (k + 1)) (bvs ((zs.take (k + 1)).flatMap be4))
      rw [show 4 * (k + 1) = 4 * k + 4 by omega, hstep, List.flatMap_append, hpre]
      have e4 : (be4 z).take 4 = be4 z := rfl
      rw [e4] at hox
      rw [show ([z].flatMap be4) = be4 z from List.append_nil _]
      exact hox
end Go.Proofs.YtpcoleeggeahlaaDoor.Frame

/- The package word, walked: its writer, the pieces of it. -/
import Derived.Test.YteanhakkceancaaWRead
import Derived.Test.YteanhakkceancaaWMath2
import Derived.Test.YteanhakkceancaaMem2
import Derived.Test.YteanhakkceancaaClose
namespace Go.Proofs.Yteanhakkceancaa.Word
open Go Go.Proofs.Yteanhakkceancaa Go.Proofs.Yteanhakkceancaa.Eng Go.Proofs
set_option maxRecDepth 10000

theorem bvs_one (bs : List UInt8) : ∀ u ∈ bvs bs, u.oneCell' = true := by
  intro u hu
  obtain ⟨b, _, rfl⟩ := List.mem_map.1 hu
  rfl
theorem bvs_set (bs : List UInt8) (k : Nat) (x : UInt8) : (bvs bs).set k (bv x) = bvs (bs.set k x) := by
  unfold bvs
  rw [List.map_set]
theorem bvs_append (a b : List UInt8) : bvs (a ++ b) = bvs a ++ bvs b := List.map_append ..
theorem wrap_byte (z : Int) : Value.int .u8 (IntKind.u8.wrap z) = bv (UInt8.ofNat (z % 256).toNat) := by
  unfold bv
  rw [wrap_u8, UInt8.toNat_ofNat']
  congr 1
  omega

/-- A writer in memory: its bytes are a row of its own. -/
structure Wr (w : World) (base g : Nat) (v : Value) (bs : List UInt8) : Prop where
  blk : w.heap[g]? = some (.cells #[v, .int .i64 0, .bool true] 113 (0, 0))
  own : w.ownsRow base 5 1 v bs.length (bvs bs)
  off : v.ownBlock ≠ some g
theorem Wr.c0 {w : World} {base g : Nat} {v : Value} {bs : List UInt8} (h : Wr w base g v bs) : w.cell? ⟨g, 0, none⟩ = some v := by
  rw [cell_of_row _ _ 0 _ _ _ h.blk]; rfl
theorem Wr.is {w : World} {base g : Nat} {v : Value} {bs : List UInt8} (h : Wr w base g v bs) : Is w (some ⟨g, 0, none⟩) true :=
  .inr ⟨g, rfl, by rw [cell_of_row _ _ 2 _ _ _ h.blk]; rfl⟩
theorem Wr.lt {w : World} {base g : Nat} {v : Value} {bs : List UInt8} (h : Wr w base g v bs) : g < w.heap.size := (Array.getElem?_eq_some_iff.1 h.blk).1
theorem Wr.mod {S : Nat → Prop} {w w' : World} {base g : Nat} {v : Value} {bs : List UInt8} (h : Wr w base g v bs) (k : Mod S w w') (hg : ¬ S g) (hv : ∀ b, v.ownBlock = some b → ¬ S b) : Wr w' base g v bs :=
  ⟨k.blk h.blk hg, own_mod k h.own hv, h.off⟩
theorem Wr.new {w w' : World} {base g : Nat} {v : Value} {bs : List UInt8} (h : Wr w base g v bs) (k : New w w') : Wr w' base g v bs := h.mod k (fun h => h) fun _ _ h => h
theorem Wr.fz {w : World} {base g : Nat} {v : Value} {bs : List UInt8} (h : Wr w base g v bs) (j : Nat) : w.frozen? ⟨g, j, none⟩ = false := frozen_of_row w g j _ _ h.blk
/-- The writer's bytes are set anew. -/
theorem Wr.set {w : World} {base g : Nat} {v v' : Value} {bs : List UInt8} (hb : w.heap[g]? = some (.cells #[v, .int .i64 0, .bool true] 113 (0, 0))) (hown : w.ownsRow base 5 1 v' bs.length (bvs bs)) (hoff : v'.ownBlock ≠ some g) : Wr (w.setCell ⟨g, 0, none⟩ v') base g v' bs ∧ Mod (fun k => k = g) w (w.setCell ⟨g, 0, none⟩ v') := by
  have m := Mod.set w ⟨g, 0, none⟩ v'
  refine ⟨⟨?_, own_mod m hown (fun b hb e => hoff (by rw [hb]; exact congrArg some e)), hoff⟩, m⟩
  rw [heap_setCell_same w g 0 _ _ v' hb]
  rfl

theorem Make_ok (w : World) : Calls Try.prog 17 #[] w fun e w' => e = .returned (.pointer (some ⟨w.heap.size, 0, none⟩)) ∧ Wr w' w.heap.size w.heap.size (.slice none 0 0) [] ∧ New w w' ∧ w'.heap.size = w.heap.size + 1 := by
  refine enter ok Try.func17 rfl rfl rfl ?_
  have n := New.alloc w (.cells #[.slice none 0 0, .int .i64 0, .bool true] 113)
  exact ⟨rfl, ⟨heap_alloc_new w _, ⟨rfl, .inl ⟨rfl, rfl⟩⟩, by simp [Value.ownBlock]⟩, n, by simp⟩

/-- A number put in its place. -/
theorem put_ok (base g : Nat) (v : Value) (bs : List UInt8) (a k : Nat) (n a' : Int) (ha : a' = (a : Int)) (w : World) (h : Wr w base g v bs) (hk : k ≤ 8) (hak : a + k ≤ bs.length) (hm : bs.length ≤ 140737488355328) :
    Calls Try.prog 86 #[.pointer (some ⟨g, 0, none⟩), .int .i64 a', .int .i64 k, .int .i64 n] w fun e w' => e = .returned (.tuple #[]) ∧ Wr w' base g v (patch bs a k n) ∧ Mod (fun b => some b = v.ownBlock) w w' := by
  subst ha
  refine enter ok Try.func86 rfl rfl rfl ?_
  refine den_loop (σ := Nat) (fun i => [(0, .pointer (some ⟨g, 0, none⟩)), (1, .int .i64 a), (2, .int .i64 k), (3, .int .i64 n), (9, .int .i64 k), (10, .int .i64 i)])
    (fun m i w' => i ≤ k ∧ m = k - i ∧ Wr w' base g v (puts bs a (encAt k n) i) ∧ Mod (fun b => some b = v.ownBlock) w w') k 0 ⟨rfl, rfl, rfl, rfl, rfl, rfl, trivial⟩ ⟨Nat.zero_le _, rfl, h, Mod.refl _ _⟩ ?_
  rintro m i wl fr0 ⟨hi, rfl, hw, hl⟩
  refine if_p (fun hlt => ?_) (fun hge => ?_)
  · have hpl := puts_length bs a (encAt k n) i
    obtain ⟨q, c, rfl, _⟩ := own_pos hw.own (by rw [hpl]; omega)
    refine draw_ ok (.q 0 (.q 1 (.q 2 (.q 3 (.q 4 (.q 5 (.q 6 (.q 7 (.q 8 (.q 9 (.q 10 (.q 11 (.q 12 (.q 13 (.q 14 (.q 15 (.q 16 (.e 17 .done)))))))))))))))))) [17] (New wl) (by kernel_rfl) (by kernel_rfl) (by kernel_rfl) (by kernel_rfl) (by kernel_rfl) (New.drew wl) ?_
    have e1 : IntKind.i64.wrap ((a : Int) + (i : Int)) = ((a + i : Nat) : Int) := by rw [wrap_i64 (by omega) (by omega)]; omega
    have e2 : IntKind.i64.wrap (8 * IntKind.i64.wrap (IntKind.i64.wrap ((k : Int) - 1) - (i : Int))) = ((8 * (k - 1 - i) : Nat) : Int) := by
      rw [wrap_i64 (n := (k : Int) - 1) (by omega) (by omega), wrap_i64 (n := (k : Int) - 1 - i) (by omega) (by omega), wrap_i64 (by omega) (by omega)]
      omega
    have e0 : (⟨q, 0, none⟩ : Addr).add ((IntKind.i64.wrap ((a : Int) + (i : Int))).toNat * 1) = ⟨q, a + i, none⟩ := by rw [e1, Nat.mul_one, Addr.add_lit, Nat.zero_add, Int.toNat_natCast]
    have hai : a + i < (bvs (puts bs a (encAt k n) i)).length := by rw [bvs_length, hpl]; omega
    have hw2 := hw.new (New.drew wl)
    obtain ⟨hc, hf, hst⟩ := own_store hw2.own (a + i) hai
    refine Exists.intro (some ⟨q, 0, none⟩) (Exists.intro _ (Exists.intro c (And.intro (fun w'' hw' => by rw [ad]; exact hw'.cell hw.c0) ?_)))
    refine And.intro (by rw [e2]; omega) (And.intro (by rw [e1]; omega) (And.intro (by rw [e1, hpl]; omega) ?_))
    refine And.intro ⟨_, by rw [e0]; exact hc⟩ (And.intro (by rw [e0]; exact hf) ?_)
    have ev : Value.int .u8 (IntKind.u8.wrap (n / 2 ^ min (IntKind.i64.wrap (8 * IntKind.i64.wrap (IntKind.i64.wrap ((k : Int) - 1) - (i : Int)))).toNat IntKind.i64.bits)) = bv (encAt k n i) := by
      rw [wrap_byte, e2, Int.toNat_natCast, Nat.min_eq_left (by show 8 * (k - 1 - i) ≤ 64; omega)]
      rfl
    obtain ⟨own5, mod5⟩ := hst (bv (encAt k n i))
    rw [bvs_set] at own5
    have hg : q ≠ g := fun e => hw.off (by simp [Value.ownBlock, e])
    refine ⟨k - (i + 1), i + 1, by omega, ⟨rfl, rfl, rfl, rfl, rfl, ?_, trivial⟩, by omega, rfl, ?_, ?_⟩
    · show Value.int .i64 (IntKind.i64.wrap _) = _
      rw [wrap_i64 (by omega) (by omega)]
      rfl
    · rw [e0, ev]
      refine ⟨mod5.blk hw2.blk (fun e => hg e.symm), ?_, hw.off⟩
      have e : (puts bs a (encAt k n) (i + 1)).length = (puts bs a (encAt k n) i).length := by rw [puts_length, puts_length]
      rw [e]
      exact own5
    · rw [e0, ev]
      exact Mod.trans (hl.new (New.drew wl)) mod5 fun b _ e => by subst e; rfl
  · have : i = k := by omega
    subst this
    refine ⟨rfl, ?_, hl⟩
    rw [puts_eq _ _ _ _ hak] at hw
    exact hw

/-! ### Which numbers fit -/
theorem fits_ok (k n : Int) (sign : Bool) (w : World) (hk : wide k = true) : Calls Try.prog 85 #[.int .i64 k, .int .i64 n, .bool sign] w fun e w' => e = .returned (.bool (fits k n sign)) ∧ w' = w := by
  refine enter ok Try.func85 rfl rfl rfl ?_
  refine if_p (fun h8 => ?_) (fun h8 => ?_)
  · subst h8
    cases sign with
    | true => exact ⟨rfl, rfl⟩
    | false => exact ⟨ret_bool (by simp [fits]), rfl⟩
  · have hk := wide_cases hk
    have e1 : IntKind.i64.wrap (8 * k) = 8 * k := wrap_i64 (by omega) (by omega)
    have e2 : IntKind.i64.wrap (IntKind.i64.wrap (8 * k) - 1) = 8 * k - 1 := by rw [e1]; exact wrap_i64 (by omega) (by omega)
    have m1 : min (IntKind.i64.wrap (8 * k)).toNat IntKind.i64.bits = 8 * k.toNat := by rw [e1]; show min _ 64 = _; omega
    have m2 : min (IntKind.i64.wrap (IntKind.i64.wrap (8 * k) - 1)).toNat IntKind.i64.bits = 8 * k.toNat - 1 := by rw [e2]; show min _ 64 = _; omega
    cases sign with
    | true =>
      refine And.intro (by rw [e2]; omega) ?_
      refine if_p (fun h => ?_) (fun h => ?_)
      · refine ⟨ret_bool ?_, rfl⟩
        rw [m2] at h
        simp [fits, h8, h]
      · refine And.intro (by rw [e2]; omega) ⟨ret_bool ?_, rfl⟩
        rw [m2] at h ⊢
        simp [fits, h8, h]
    | false =>
      refine And.intro (by rw [e1]; omega) ⟨ret_bool ?_, rfl⟩
      rw [m1]
      simp [fits, h8]
theorem unfit_ok (n k : Int) (sign : Bool) (K S : Addr) (w : World) (hK : w.cell? K = some (.int .i64 k)) (hS : w.cell? S = some (.bool sign)) (hk : wide k = true) :
    Calls Try.prog 84 #[.int .i64 n, .pointer (some K), .pointer (some S)] w fun e w' => e = .returned (.bool (!fits k n sign)) ∧ w' = w := by
  refine enter ok Try.func84 rfl rfl rfl ?_
  refine Exists.intro k (And.intro hK (Exists.intro sign (And.intro hS ?_)))
  refine call_ (fits_ok k n sign w hk) ?_
  rintro e w' ⟨rfl, rfl⟩
  exact ⟨_, rfl, rfl, rfl⟩
theorem index_ok (C : Option Addr) (q qc : Nat) (zs : List Int) (k : Int) (sign : Bool) (K S : Addr) (w : World) (hq : q = zs.length) (hz : Row w C (ivs zs)) (hm : q ≤ 140737488355328) (hK : w.cell? K = some (.int .i64 k)) (hS : w.cell? S = some (.bool sign)) (hk : wide k = true) :
    Calls Try.prog 88 #[.slice C q qc, .func (.func 84) #[] #[.pointer (some K), .pointer (some S)]] w fun e w' => ∃ z : Int, e = .returned (.int .i64 z) ∧ decide (0 ≤ z) = zs.any (fun n => !fits k n sign) ∧ w' = w := by
  refine enter ok Try.func88 rfl rfl rfl ?_
  refine den_loop (σ := Nat) (fun i => [(0, .slice C q qc), (1, .func (.func 84) #[] #[.pointer (some K), .pointer (some S)]), (4, .int .i64 (if i = 0 then 0 else 0)), (7, .int .i64 q), (8, .int .i64 i)])
    (fun m i w' => i ≤ q ∧ m = q - i ∧ (zs.take i).any (fun n => !fits k n sign) = false ∧ w' = w) q 0 ⟨rfl, rfl, rfl, rfl, rfl, trivial⟩ ⟨Nat.zero_le _, rfl, by simp, rfl⟩ ?_
  rintro m i w' fr0 ⟨hi, rfl, hno, rfl⟩
  refine if_p (fun hlt => ?_) (fun hge => ?_)
  · have hi' : i < zs.length := by omega
    obtain ⟨a, rfl, hc⟩ := hz.at_ i (by simp [ivs]; omega)
    have hzv : (ivs zs)[i]'(by simp [ivs]; omega) = .int .i64 zs[i] := by simp [ivs]
    rw [hzv] at hc
    refine And.intro (by omega) (And.intro hlt (some_at rfl (Exists.intro _ (And.intro (by rw [Nat.mul_one, Int.toNat_natCast]; exact hc) ?_))))
    refine call_ (unfit_ok zs[i] k sign K S w' hK hS hk) ?_
    rintro e w2 ⟨rfl, rfl⟩
    refine ⟨_, rfl, ?_⟩
    refine if_ (fun hu => ?_) (fun hu => ?_)
    · refine ⟨_, rfl, ?_, rfl⟩
      rw [decide_eq_true (show (0 : Int) ≤ i by omega)]
      exact (List.any_eq_true.mpr ⟨zs[i], List.getElem_mem hi', hu⟩).symm
    · refine ⟨q - (i + 1), i + 1, by omega, ⟨rfl, rfl, ?_, rfl, ?_, trivial⟩, by omega, rfl, ?_, rfl⟩
      · show Value.int .i64 _ = Value.int .i64 _
        split <;> rfl
      · show Value.int .i64 (IntKind.i64.wrap _) = _
        rw [wrap_i64 (by omega) (by omega)]
        rfl
      · rw [List.take_succ_eq_append_getElem hi', List.any_append, hno, Bool.false_or, List.any_cons, List.any_nil, Bool.or_false]
        exact hu
  · have : i = q := by omega
    subst this
    rw [hq, List.take_length] at hno
    exact ⟨_, rfl, by rw [hno]; rfl, rfl⟩
theorem contains_ok (C : Option Addr) (q qc : Nat) (zs : List Int) (k : Int) (sign : Bool) (K S : Addr) (w : World) (hq : q = zs.length) (hz : Row w C (ivs zs)) (hm : q ≤ 140737488355328) (hK : w.cell? K = some (.int .i64 k)) (hS : w.cell? S = some (.bool sign)) (hk : wide k = true) :
    Calls Try.prog 83 #[.slice C q qc, .func (.func 84) #[] #[.pointer (some K), .pointer (some S)]] w fun e w' => e = .returned (.bool (zs.any (fun n => !fits k n sign))) ∧ w' = w := by
  refine enter ok Try.func83 rfl rfl rfl ?_
  refine call_ (index_ok C q qc zs k sign K S w hq hz hm hK hS hk) ?_
  rintro e w' ⟨z, rfl, hz2, rfl⟩
  exact ⟨_, rfl, ret_bool hz2, rfl⟩
end Go.Proofs.Yteanhakkceancaa.Word

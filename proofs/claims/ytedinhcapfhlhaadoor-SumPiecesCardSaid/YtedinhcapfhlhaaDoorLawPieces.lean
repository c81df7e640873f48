/- The statement SumPieces, walked. -/
import Derived.Test.YtedinhcapfhlhaaDoorLawFinds
import Derived.Test.YtedinhcapfhlhaaDoorClose
namespace Go.Proofs.YtedinhcapfhlhaaDoor.Sum
open Go Go.Proofs.YtedinhcapfhlhaaDoor Go.Proofs.YtedinhcapfhlhaaDoor.Eng Go.Proofs
set_option maxRecDepth 10000

theorem part_row {A : Option Addr} {cc : Nat} {b : List UInt8} {w : World} (hr : Row w A (bvs b)) (hcc : b.length ≤ cc) (d k : Nat) : Row w (slA A cc d 1) (bvs ((b.drop d).take k)) := by
  have := (hr.cut cc d 1 (by rw [bvs_length]; omega)).take k
  rw [Nat.mul_one] at this
  unfold bvs at this ⊢
  rw [List.map_take, List.map_drop]
  exact this
theorem flat_app (ps : List Part) (p : Part) : (ps ++ [p]).flatMap (·.bs) = ps.flatMap (·.bs) ++ p.bs := by
  rw [List.flatMap_append]
  simp
theorem parts_val (ps : List Part) (p : Part) : (ps ++ [p]).map Part.val = ps.map Part.val ++ [p.val] := List.map_append ..

theorem SumPieces_ok (A C : Option Addr) (n cc q qc : Nat) (bs : List UInt8) (zs : List Int) (w : World) (ht : tbl w) (hn : n = bs.length) (hr : Row w A (bvs bs)) (hcc : n ≤ cc) (hcm : cc ≤ 9223372036854775807) (hq : q = zs.length) (hz : Row w C (ivs zs)) (hqc : q ≤ qc) (hqm : qc ≤ 9223372036854775807) :
    Calls Tryd.prog 5 #[.slice A n cc, .slice C q qc] w fun e w' => e = .returned (.bool true) ∧ New w w' := by
  refine enter ok Tryd.func5 rfl rfl rfl ?_
  refine call_ (works_ok' w ht) ?_
  rintro e w1 ⟨b0, hb0, rfl, h1⟩
  refine ⟨_, rfl, ?_⟩
  refine if_no (by rw [hb0]; rfl) ?_
  refine seq_cut (σ := Unit) (fun _ => [(0, .slice A (min n 4000) cc), (1, .slice C q qc)]) (fun _ w' => w' = w1) ?_ ?_
  rotate_left
  · intro K hK
    refine if_p (fun h => ?_) (fun h => ?_)
    · refine And.intro (by decide) (And.intro (by show (4000 : Int) ≤ (cc : Int); omega) (hK () _ _ ⟨cut_val (N := 4000) (by omega), rfl, trivial⟩ rfl))
    · refine hK () _ _ ⟨?_, rfl, trivial⟩ rfl
      show Value.slice _ _ _ = _
      rw [Nat.min_eq_left (by omega)]
  rintro s w1 fr0 rfl
  generalize hb : bs.take 4000 = b
  have hn' : min n 4000 = b.length := by rw [← hb, List.length_take, Nat.min_comm]; omega
  have hr' : Row w1 A (bvs b) := by rw [← hb, bvs_take]; exact (hr.new h1).take _
  have hm : min n 4000 ≤ 4000 := by omega
  have hmc : min n 4000 ≤ cc := by omega
  generalize min n 4000 = m at hn' hm hmc
  have hbc : b.length ≤ cc := by omega
  have hown0 := own_lit w1 [] 23 1 0 w1.heap.size (Nat.le_refl _) rfl (by omega)
  refine den_loop (σ := List Part × Option Addr × Nat) (fun s => [(0, .slice A m cc), (1, .slice C q qc), (5, .slice s.2.1 s.1.length s.2.2), (6, .int .u32 ((Crc.on 0#32 (s.1.flatMap (·.bs))).toNat : Int)), (7, .int .i64 ((s.1.flatMap (·.bs)).length : Int)), (8, .int .i64 s.1.length)])
    (fun r s w' => r = 30 - s.1.length ∧ s.1.length ≤ 30 ∧ s.1.length ≤ q ∧ s.1.flatMap (·.bs) = b.take (s.1.flatMap (·.bs)).length ∧ (∀ p ∈ s.1, Row w1 p.A (bvs p.bs) ∧ p.bs.length ≤ 140737488351232) ∧ w'.ownsRow w1.heap.size 23 1 (.slice s.2.1 s.1.length s.2.2) s.1.length (s.1.map Part.val) ∧ New w1 w') 30 ([], some ⟨w1.heap.size, 0, none⟩, 0)
    ⟨rfl, rfl, rfl, congrArg (Value.int .u32) (show (0 : Int) = ((Crc.on 0#32 []).toNat : Int) by decide), rfl, rfl, trivial⟩ ⟨rfl, by simp, by simp, by simp, by simp, hown0, New.alloc _ _⟩ ?_
  rintro r ⟨ps, A5, c5⟩ wl fr0 ⟨rfl, hp30, hpq, hpre, hps, hown, hl⟩
  dsimp only at hp30 hpq hpre hps hown
  have hdm : (ps.flatMap (·.bs)).length ≤ m := by
    have := congrArg List.length hpre
    rw [List.length_take] at this
    omega
  generalize hD : (ps.flatMap (·.bs)).length = d at hpre hdm
  have fin : ∀ {w2 : World} (hw2 : New w1 w2), w2.ownsRow w1.heap.size 23 1 (.slice A5 ps.length c5) ps.length (ps.map Part.val) → True := fun _ _ => trivial
  have hlast : Crc.on (Crc.on 0#32 (ps.flatMap (·.bs))) ((b.drop d).take (m - d)) = Crc.on 0#32 b := by
    rw [on_append, hpre, List.take_of_length_le (l := b.drop d) (by rw [List.length_drop]; omega), List.take_append_drop]
  refine if_p (fun hlt => ?_) (fun hge => ?_)
  refine if_p (fun hlt30 => ?_) (fun hge30 => ?_)
  · replace hlt : (ps.length : Int) < (q : Int) := hlt
    replace hlt30 : (ps.length : Int) < 30 := hlt30
    obtain ⟨a, rfl, hc⟩ := (hz.new (h1.trans hl)).at_ ps.length (by simp [ivs]; omega)
    have hzv : (ivs zs)[ps.length]'(by simp [ivs]; omega) = .int .i64 (zs.getD ps.length 0) := by
      have : ps.length < zs.length := by omega
      simp [ivs, List.getD_eq_getElem?_getD, List.getElem?_eq_getElem this]
    rw [hzv] at hc
    refine And.intro (by omega) (And.intro hlt (some_at rfl (Exists.intro _ (And.intro (by rw [Nat.mul_one, Int.toNat_natCast]; exact hc) ?_))))
    have ew : IntKind.i64.wrap (IntKind.i64.wrap ((m : Int) - (d : Int)) + 1) = ((m - d + 1 : Nat) : Int) := by
      rw [wrap_i64 (n := (m : Int) - d) (by omega) (by omega), wrap_i64 (by omega) (by omega)]
      omega
    refine call_ (Base.Among_ok _ _ _ (by rw [ew]; omega)) ?_
    rintro e w2 ⟨rfl, rfl⟩
    rw [ew]
    obtain ⟨k0, k1⟩ := Base.among_lt (x := zs.getD ps.length 0) (n := ((m - d + 1 : Nat) : Int)) (by omega)
    generalize Base.among (zs.getD ps.length 0) ((m - d + 1 : Nat) : Int) = k at k0 k1
    obtain ⟨k, rfl⟩ : ∃ k' : Nat, k = k' := ⟨k.toNat, by omega⟩
    have hkm : d + k ≤ m := by omega
    refine ⟨_, rfl, ?_⟩
    have ek : IntKind.i64.wrap ((d : Int) + (k : Int)) = ((d + k : Nat) : Int) := by
      rw [wrap_i64 (by omega) (by omega)]
      omega
    have hkl : ((b.drop d).take k).length = k := by rw [List.length_take, List.length_drop]; omega
    have en : (IntKind.i64.wrap ((d : Int) + (k : Int))).toNat - (d : Int).toNat = k := by rw [ek]; omega
    have hrow := part_row hr' hbc d k
    have ev : Value.slice (slA A cc (d : Int).toNat 1) ((IntKind.i64.wrap ((d : Int) + (k : Int))).toNat - (d : Int).toNat) (cc - (d : Int).toNat) = (Part.mk (slA A cc d 1) (cc - d) ((b.drop d).take k)).val := by
      rw [en]
      unfold Part.val
      rw [hkl]
      rfl
    refine And.intro (by omega) (And.intro (by rw [ek]; omega) (And.intro (by rw [ek]; omega) ?_))
    refine call_ (On_ok _ _ _ _ ((b.drop d).take k) _ (ht.new (h1.trans hl)) (by rw [hkl]; exact en) (hrow.new hl) (by rw [en]; omega)) ?_
    rintro e w3 ⟨rfl, rfl⟩
    refine ⟨_, rfl, ?_⟩
    refine And.intro (by omega) (And.intro (by rw [ek]; omega) (And.intro (by rw [ek]; omega) ?_))
    refine append_ ok rfl rfl rfl rfl (own_new (New.alloc _ _) hown) rfl rfl (by rw [ev]; exact row_alloc w3 [(Part.mk (slA A cc d 1) (cc - d) ((b.drop d).take k)).val] _ _) rfl (by intro u hu; rw [List.mem_singleton] at hu; subst hu; rfl) (by decide) rfl (by show (ps.length + 1) * 24 ≤ _; omega) (by omega) (by have := hl.size; simp; omega) ?_
    intro A6 c6 w4 own6 mod6
    rw [ev] at mod6
    have hflat : (ps ++ [Part.mk (slA A cc d 1) (cc - d) ((b.drop d).take k)]).flatMap (·.bs) = b.take (d + k) := by
      rw [flat_app, hpre]
      show b.take d ++ (b.drop d).take k = _
      rw [List.take_add]
    have hdl : (b.take (d + k)).length = d + k := by rw [List.length_take]; omega
    refine ⟨30 - (ps.length + 1), (ps ++ [Part.mk (slA A cc d 1) (cc - d) ((b.drop d).take k)], A6, c6), by show _ < 30 - ps.length; omega, ?_, ?_⟩
    · refine ⟨rfl, rfl, ?_, ?_, ?_, ?_, trivial⟩
      · show Value.slice _ _ _ = Value.slice _ _ _
        rw [List.length_append]
        rfl
      · show Value.int .u32 _ = Value.int .u32 _
        rw [hflat, on_append, hpre, ← List.take_add]
      · show Value.int .i64 _ = Value.int .i64 _
        rw [ek, hflat, hdl]
      · show Value.int .i64 (IntKind.i64.wrap ((ps.length : Int) + 1)) = Value.int .i64 _
        rw [wrap_i64 (by omega) (by omega), List.length_append]
        rfl
    · refine ⟨by simp, by simp; omega, by simp; omega, ?_, ?_, ?_, ?_⟩
      · show (ps ++ [_]).flatMap _ = _
        rw [hflat, hdl]
      · intro p hp
        rcases List.mem_append.1 hp with hp | hp
        · exact hps p hp
        · rw [List.mem_singleton] at hp
          subst hp
          exact ⟨hrow, by rw [hkl]; omega⟩
      · show w4.ownsRow _ _ _ (.slice A6 (ps ++ [_]).length c6) (ps ++ [_]).length ((ps ++ [_]).map _)
        rw [parts_val, List.length_append]
        exact own6
      · refine Mod.trans (hl.trans (New.alloc _ _)) mod6 ?_
        intro i hi h
        have := hown.lt i h.symm
        omega
  all_goals
    have hkl : ((b.drop d).take (m - d)).length = m - d := by rw [List.length_take, List.length_drop]; omega
    have hrow := part_row hr' hbc d (m - d)
    have ev : Value.slice (slA A cc (d : Int).toNat 1) (m - (d : Int).toNat) (cc - (d : Int).toNat) = (Part.mk (slA A cc d 1) (cc - d) ((b.drop d).take (m - d))).val := by
      unfold Part.val
      rw [hkl]
      rfl
    refine And.intro (by omega) (And.intro (by omega) ?_)
    refine call_ (On_ok _ _ _ _ ((b.drop d).take (m - d)) _ (ht.new (h1.trans hl)) (by rw [hkl]; rfl) (hrow.new hl) (by show m - d ≤ _; omega)) ?_
    rintro e w3 ⟨rfl, rfl⟩
    refine ⟨_, rfl, ?_⟩
    refine call_ (Of1_ok A m _ b w3 (ht.new (h1.trans hl)) hn' (hr'.new hl) (by omega)) ?_
    rintro e w4 ⟨rfl, rfl⟩
    have h4 := hl.trans (New.alloc w3 (.cells #[.slice A m cc] 23))
    refine ⟨_, rfl, ?_⟩
    refine if_yes (decide_eq_true (by rw [hlast])) ?_
    refine And.intro (by omega) (And.intro (by omega) ?_)
    refine append_ ok rfl rfl rfl rfl (own_new ((New.alloc _ _).trans (New.alloc _ _)) hown) rfl rfl (by rw [ev]; exact row_alloc _ [(Part.mk (slA A cc d 1) (cc - d) ((b.drop d).take (m - d))).val] _ _) rfl (by intro u hu; rw [List.mem_singleton] at hu; subst hu; rfl) (by decide) rfl (by show (ps.length + 1) * 24 ≤ _; omega) (by omega) (by have := hl.size; simp; omega) ?_
    intro A6 c6 w5 own6 mod6
    rw [ev] at mod6
    have h5 : New w1 w5 := Mod.trans (h4.trans (New.alloc _ _)) mod6 fun i hi h => by have := hown.lt i h.symm; omega
    obtain ⟨_, _, he, _, _, row6, _⟩ := own_slice own6
    cases he
    refine call_ (Of_ok _ _ _ (ps ++ [Part.mk (slA A cc d 1) (cc - d) ((b.drop d).take (m - d))]) _ (ht.new (h1.trans h5)) (by rw [List.length_append]; rfl) (by rw [parts_val]; exact row6) ?_ (by omega)) ?_
    · intro p hp
      rcases List.mem_append.1 hp with hp | hp
      · exact ⟨(hps p hp).1.new h5, (hps p hp).2⟩
      · rw [List.mem_singleton] at hp
        subst hp
        exact ⟨hrow.new h5, by rw [hkl]; omega⟩
    rintro e w6 ⟨rfl, rfl⟩
    refine ⟨_, rfl, ?_⟩
    refine call_ (Of1_ok A m _ b w6 (ht.new (h1.trans h5)) hn' (hr'.new h5) (by omega)) ?_
    rintro e w7 ⟨rfl, rfl⟩
    refine ⟨_, rfl, ?_, (h1.trans h5).trans (New.alloc _ _)⟩
    show Ending.returned (.bool (decide _)) = _
    rw [flat_app, ← on_append]
    show Ending.returned (.bool (decide (((Crc.on (Crc.on 0#32 (ps.flatMap (·.bs))) ((b.drop d).take (m - d))).toNat : Int) = _))) = _
    rw [hlast, decide_eq_true rfl]
end Go.Proofs.YtedinhcapfhlhaaDoor.Sum

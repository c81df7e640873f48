/- The document's answer for machines told, walked: its writer. Printed by gentells.py. -/
import Derived.Test.YteanhakkceancaaIWrite3
import Derived.Test.YteanhakkceancaaWRef5
namespace Go.Proofs.Yteanhakkceancaa.Image
open Go Go.Proofs.Yteanhakkceancaa Go.Proofs.Yteanhakkceancaa.Eng Go.Proofs Go.Proofs.Yteanhakkceancaa.Word Go.Proofs.Yteanhakkceancaa.Fmt
open Go.Proofs.Yteanhakkceancaa.Pool (both own_low)
set_option maxRecDepth 10000
theorem PutO_ok (base : Nat) (v : Value) (bs : List UInt8) (k : Int) (sign : Bool) (C : Option Addr) (q qc : Nat) (zs : List Int) (w : World) (own : w.ownsRow base 5 1 v bs.length (bvs bs)) (hbase : base ≤ w.heap.size) (hz : Row w C (ivs zs)) (hq : q = zs.length)
    (hb : ∀ z ∈ zs, -9223372036854775808 ≤ z ∧ z ≤ 9223372036854775807) (hm : bs.length + 8 * zs.length ≤ 140737488355328) :
    Calls Try.prog 66 #[v, .int .i64 k, .bool sign, .slice C q qc] w fun e w' => ∃ v', e = .returned (.tuple #[v', .int .i64 (allErr k sign zs)]) ∧ w'.ownsRow base 5 1 v' (allBs bs k sign zs).length (bvs (allBs bs k sign zs)) ∧ New w w' ∧ stayed w v v' := by
  obtain ⟨A, c, rfl, hc, ht, hr, _⟩ := own_slice own
  refine enter ok Try.func66 rfl rfl rfl ?_
  refine append2_ ok rfl rfl rfl rfl (own_lit w [] 5 1 0 w.heap.size (Nat.le_refl _) rfl (by omega)) rfl rfl (hr.new (New.alloc _ _)) (by rw [bvs_length]; exact (Nat.mul_one _).symm) (bvs_one bs) (by decide) rfl (by show (0 + bs.length) * 1 ≤ _; omega) (by omega) (by simp) ?_
  intro A0 c0 w0 own0 mod0 _
  rw [Nat.zero_add] at own0
  replace own0 : w0.ownsRow w.heap.size 5 1 (.slice A0 bs.length c0) bs.length (bvs bs) := own0
  have n0 : New w w0 := Mod.trans (New.alloc w _) mod0 (by
    intro i hi h
    simp only [Value.ownBlock, Option.some.injEq] at h
    omega)
  have e0 : (Value.slice A0 (0 + bs.length) c0) = .slice A0 bs.length c0 := by rw [Nat.zero_add]
  refine call_ (refwide_ok k w0) ?_
  rintro e w1 ⟨rfl, rfl⟩
  refine ⟨_, rfl, ?_⟩
  have no : ∀ {w2 : World}, New w w2 → good k sign zs = false → ∃ v', Ending.returned (.tuple #[.slice A bs.length c, .int .i64 2]) = .returned (.tuple #[v', .int .i64 (allErr k sign zs)]) ∧ w2.ownsRow base 5 1 v' (allBs bs k sign zs).length (bvs (allBs bs k sign zs)) ∧ New w w2 ∧ stayed w (.slice A bs.length c) v' := by
    intro w2 n2 hg
    unfold allErr allBs
    rw [hg]
    exact ⟨.slice A bs.length c, rfl, own_new n2 own, n2, stayed.refl w _⟩
  refine if_ (fun hwk => ?_) (fun hwk => ?_)
  · exact no n0 (by
      have : wide k = false := by simpa using hwk
      unfold good
      rw [this]
      rfl)
  replace hwk : wide k = true := by simpa using hwk
  have hkc := wide_cases hwk
  refine den_loop (σ := Nat × Option Addr × Nat × Nat) (fun s => [(0, .slice A bs.length c), (1, .int .i64 k), (2, .bool sign), (3, .slice C q qc), (10, .slice s.2.1 s.2.2.1 s.2.2.2), (11, .int .i64 s.1)])
    (fun m s wl => s.1 ≤ q ∧ m = q - s.1 ∧ s.2.2.1 = (bs ++ (zs.take s.1).flatMap (enc k.toNat)).length ∧ wl.ownsRow w.heap.size 5 1 (.slice s.2.1 s.2.2.1 s.2.2.2) s.2.2.1 (bvs (bs ++ (zs.take s.1).flatMap (enc k.toNat))) ∧ New w wl ∧ (zs.take s.1).any (fun n => !fits k n sign) = false) q (0, A0, bs.length, c0) ⟨rfl, rfl, rfl, rfl, e0, rfl, trivial⟩
    ⟨Nat.zero_le _, rfl, by simp, by simpa using own0, n0, by simp⟩ ?_
  rintro m ⟨i, A1, n1, c1⟩ wl fr0 ⟨hi, rfl, hn1, own1, nl, hno⟩
  dsimp only at hi hn1 own1 nl hno
  have hlen : (bs ++ (zs.take i).flatMap (enc k.toNat)).length = bs.length + k.toNat * i := by rw [List.length_append, flat_length, List.length_take, Nat.min_eq_left (by omega)]
  have hki : k.toNat * i ≤ 8 * i := Nat.mul_le_mul_right _ (by omega)
  refine if_p (fun hlt => ?_) (fun hge => ?_)
  · have hi' : i < zs.length := by omega
    obtain ⟨a, rfl, hcell⟩ := (hz.new nl).at_ i (by simp [ivs]; omega)
    have hzv : (ivs zs)[i]'(by simp [ivs]; omega) = .int .i64 zs[i] := by simp [ivs]
    rw [hzv] at hcell
    obtain ⟨lo, up⟩ := hb zs[i] (List.getElem_mem hi')
    refine And.intro (by omega) (And.intro hlt (some_at rfl (Exists.intro _ (And.intro (by rw [Nat.mul_one, Int.toNat_natCast]; exact hcell) ?_))))
    refine call_ (NBytes_ok k zs[i] sign wl lo up) ?_
    rintro e w5 ⟨v, rfl, own5, n5⟩
    obtain ⟨A5, c5, rfl, _, _, row5, _⟩ := own_slice own5
    refine ⟨_, rfl, ?_⟩
    refine if_ (fun hbad => ?_) (fun hgood => ?_)
    · exact no (nl.trans n5) (good_false hi' (Bool.not_eq_true' _ ▸ hbad))
    replace hgood : (wide k && fits k zs[i] sign) = true := by simpa using hgood
    have hen : encOr k zs[i] sign = enc k.toNat zs[i] := by unfold encOr; rw [if_pos hgood]
    rw [hen] at row5
    have hfit : fits k zs[i] sign = true := by rw [hwk, Bool.true_and] at hgood; exact hgood
    have own6 := own_new n5 own1
    have hl5 : (encOr k zs[i] sign).length = k.toNat := by rw [hen, enc_length]
    refine append2_ ok rfl rfl rfl rfl own6 rfl rfl row5 (by rw [bvs_length, hl5, enc_length]; exact (Nat.mul_one _).symm) (bvs_one _) (by decide) rfl (by rw [hl5]; show (n1 + k.toNat) * 1 ≤ _; omega) (by rw [hl5]; omega) (Nat.le_trans nl.size n5.size) ?_
    intro A7 c7 w7 own7 mod7 _
    have n7 := New.of_own (nl.trans n5) own6 mod7
    refine ⟨q - (i + 1), (i + 1, A7, n1 + k.toNat, c7), by omega, ⟨rfl, rfl, rfl, rfl, ?_, ?_, trivial⟩, by show i + 1 ≤ q; omega, rfl, ?_, ?_, n7, ?_⟩
    · show Value.slice A7 (n1 + (encOr k zs[i] sign).length) c7 = _
      rw [hl5]
    · show Value.int .i64 (IntKind.i64.wrap _) = _
      rw [wrap_i64 (by omega) (by omega)]
      rfl
    · show n1 + k.toNat = _
      rw [flat_take zs _ i hi', ← List.append_assoc, List.length_append, enc_length, ← hn1]
    · show w7.ownsRow w.heap.size 5 1 (.slice A7 (n1 + k.toNat) c7) (n1 + k.toNat) (bvs (bs ++ (zs.take (i + 1)).flatMap (enc k.toNat)))
      rw [flat_take zs _ i hi', ← List.append_assoc, bvs_append]
      rw [hl5] at own7
      exact own7
    · show (zs.take (i + 1)).any _ = false
      rw [List.take_succ_eq_append_getElem hi', List.any_append, hno, Bool.false_or, List.any_cons, List.any_nil, Bool.or_false, hfit]
      rfl
  · have : i = q := by omega
    subst this
    rw [hq, List.take_length] at hno hn1 own1
    have hg : good k sign zs = true := by
      unfold good
      rw [hwk, hno]
      rfl
    unfold allErr allBs
    rw [hg, if_pos rfl, if_pos rfl]
    subst hn1
    exact ⟨_, rfl, own_low own1 hbase, nl, fun b hb => .inr (own1.lt b hb).1⟩

/-! ### The writer -/
structure Vw (w : World) (base g : Nat) (v : Value) (t : WT) : Prop where
  blk : w.heap[g]? = some (.cells #[v, .bool t.2] 76 (0, 0))
  own : w.ownsRow base 5 1 v t.1.length (bvs t.1)
  off : v.ownBlock ≠ some g
  bg : base ≤ g
theorem Vw.lt {w : World} {base g : Nat} {v : Value} {t : WT} (c : Vw w base g v t) : g < w.heap.size := (Array.getElem?_eq_some_iff.1 c.blk).1
theorem Vw.bw {w : World} {base g : Nat} {v : Value} {t : WT} (c : Vw w base g v t) : base ≤ w.heap.size := by
  have := c.lt
  have := c.bg
  omega
theorem Vw.new {w w' : World} {base g : Nat} {v : Value} {t : WT} (c : Vw w base g v t) (n : New w w') : Vw w' base g v t := ⟨n.blk c.blk, own_new n c.own, c.off, c.bg⟩
structure Kv (w : World) (base g : Nat) (v : Value) (w' : World) (v' : Value) (t : WT) : Prop where
  vw : Vw w' base g v' t
  mod : Mod (WS g v) w w'
  st : stayed w v v'
theorem Kv.refl {w : World} {base g : Nat} {v : Value} {t : WT} (c : Vw w base g v t) : Kv w base g v w v t := ⟨c, Mod.refl _ _, stayed.refl w v⟩
theorem Kv.new {w w' w2 : World} {base g : Nat} {v v' : Value} {t : WT} (c : Kv w base g v w' v' t) (n : New w' w2) : Kv w base g v w2 v' t := ⟨c.vw.new n, both c.mod n.mod, c.st⟩
theorem Kv.then {w w1 w2 : World} {base g : Nat} {v v1 v2 : Value} {t t2 : WT} (c : Kv w base g v w1 v1 t) (k : Kv w1 base g v1 w2 v2 t2) : Kv w base g v w2 v2 t2 := by
  refine ⟨k.vw, Mod.trans c.mod k.mod ?_, stayed.trans c.st c.mod.size k.st⟩
  rintro b hb (e | e)
  · exact .inl e
  · rcases c.st b e.symm with h1 | h1
    · exact .inr h1.symm
    · omega
theorem Vw.old {w w' : World} {base g : Nat} {v : Value} {t : WT} (c : Vw w base g v t) (m : Mod (WS g v) w w') : Mod (fun b => base ≤ b) w w' := m.mono fun b hb e => by
  have h2 := c.bg
  rcases e with e | e
  · omega
  · exact (c.own.lt b e.symm).1
/-- A block that was new is none of the writer's. -/
theorem Kv.loc {w w1 w2 : World} {base g : Nat} {v v2 : Value} {t t2 : WT} {x : Nat} (c : Vw w base g v t) (hx : w.heap.size ≤ x) (hz : x < w1.heap.size) (k : Kv w1 base g v w2 v2 t2) : ¬ WS g v2 x := by
  have := c.lt
  rintro (e | e)
  · omega
  · rcases k.st _ e.symm with e | e
    · exact absurd (c.own.lt _ e).2 (by omega)
    · omega
theorem rput_ok (base g : Nat) (v : Value) (t : WT) (k : Int) (sign : Bool) (C : Option Addr) (q qc : Nat) (zs : List Int) (w : World) (c : Vw w base g v t) (hz : Row w C (ivs zs)) (hq : q = zs.length) (hb : ∀ z ∈ zs, i64 z) (hm : t.1.length + 8 * zs.length ≤ 140737488355328) :
    Calls Try.prog 35 #[.pointer (some ⟨g, 0, none⟩), .int .i64 k, .bool sign, .slice C q qc] w fun e w' => e = .returned (.tuple #[]) ∧ ∃ v', Kv w base g v w' v' (allBs t.1 k sign zs, t.2 || !good k sign zs) := by
  obtain ⟨A, cc, rfl, _⟩ := own_slice c.own
  refine enter ok Try.func35 rfl rfl rfl ?_
  refine Exists.intro A (Exists.intro t.1.length (Exists.intro cc (And.intro (cellB c.blk rfl) ?_)))
  refine call_ (PutO_ok base (.slice A t.1.length cc) t.1 k sign C q qc zs w c.own c.bw hz hq (fun z hzz => hb z hzz) hm) ?_
  rintro e w1 ⟨v1, rfl, own1, n1, st1⟩
  have own1' := own1
  obtain ⟨A1, c1, rfl, _⟩ := own_slice own1'
  refine ⟨_, rfl, ?_⟩
  have hb1 := n1.blk c.blk
  have hg := c.lt
  have off1 : (Value.slice A1 (allBs t.1 k sign zs).length c1).ownBlock ≠ some g := fun e => by
    rcases st1 _ e with e | e
    · exact c.off e
    · omega
  refine And.intro ⟨_, cellB hb1 rfl⟩ (And.intro (fzB hb1 _) (force_ ?_))
  refine stK hb1 (show (0 : Nat) < 2 by decide) ?_
  intro w2 hb2 m2 s2
  have fin : ∀ {w3 : World} {b : Bool}, w3.heap[g]? = some (.cells #[.slice A1 (allBs t.1 k sign zs).length c1, .bool b] 76 (0, 0)) → Mod (fun b => b = g) w2 w3 → Kv w base g (.slice A t.1.length cc) w3 (.slice A1 (allBs t.1 k sign zs).length c1) (allBs t.1 k sign zs, b) := fun hb3 m3 =>
    ⟨⟨hb3, own_mod m3 (own_mod m2 own1 fun b hb e => off1 (by rw [hb, e])) fun b hb e => off1 (by rw [hb, e]), off1, c.bg⟩, (both (both n1.mod m2) m3).mono fun _ _ e => .inl e, st1⟩
  refine Exists.intro t.2 (And.intro (cellB hb2 rfl) ?_)
  refine if_ (fun hx => ?_) (fun hx => ?_)
  · refine And.intro ⟨_, cellB hb2 rfl⟩ (And.intro (fzB hb2 _) (force_ ?_))
    refine stK hb2 (show (1 : Nat) < 2 by decide) ?_
    intro w3 hb3 m3 s3
    rw [hx, Bool.true_or]
    exact ⟨rfl, _, fin hb3 m3⟩
  · refine And.intro ⟨_, cellB hb2 rfl⟩ (And.intro (fzB hb2 _) (force_ ?_))
    refine stK hb2 (show (1 : Nat) < 2 by decide) ?_
    intro w3 hb3 m3 s3
    rw [hx, Bool.false_or, ← allErr_good]
    exact ⟨rfl, _, fin hb3 m3⟩
/-- What lies in a block of its own. -/
theorem rput1_ok (base g : Nat) (v : Value) (t : WT) (k : Nat) (sign : Bool) (zs : List Int) (n : Nat) (w : World) (c : Vw w base g v t) (hn : n = zs.length) (hb : ∀ z ∈ zs, i64 z) (hm : t.1.length + 8 * zs.length ≤ 140737488355328) :
    Calls Try.prog 35 #[.pointer (some ⟨g, 0, none⟩), .int .i64 (k : Int), .bool sign, .slice (some ⟨w.heap.size, 0, none⟩) n n] (w.alloc (.cells (ivs zs).toArray 3)) fun e w' => e = .returned (.tuple #[]) ∧ ∃ v', Kv w base g v w' v' (noteS t k sign zs) := by
  have n1 := New.alloc w (.cells (ivs zs).toArray 3)
  refine (rput_ok base g v t k sign (some ⟨w.heap.size, 0, none⟩) n n zs _ (c.new n1) (row_alloc w (ivs zs) _ _) hn hb hm).mono ?_
  rintro e w' ⟨rfl, v', k'⟩
  exact ⟨rfl, v', ((Kv.refl c).new n1).then k'⟩
theorem rnumbers_ok (base g : Nat) (v : Value) (t : WT) (C : Option Addr) (q qc : Nat) (zs : List Int) (w : World) (c : Vw w base g v t) (hz : Row w C (ivs zs)) (hq : q = zs.length) (hb : ∀ z ∈ zs, i64 z) (hm : t.1.length + 8 * zs.length ≤ 140737488355328) :
    Calls Try.prog 32 #[.pointer (some ⟨g, 0, none⟩), .slice C q qc] w fun e w' => e = .returned (.tuple #[]) ∧ ∃ v', Kv w base g v w' v' (noteS t 8 true zs) := by
  refine enter ok Try.func32 rfl rfl rfl ?_
  refine call_ (rput_ok base g v t 8 true C q qc zs w c hz hq hb hm) ?_
  rintro e w1 ⟨rfl, v1, k1⟩
  refine ⟨_, rfl, ?_⟩
  exact ⟨rfl, v1, k1⟩
theorem rnumbers1_ok (base g : Nat) (v : Value) (t : WT) (zs : List Int) (n : Nat) (w : World) (c : Vw w base g v t) (hn : n = zs.length) (hb : ∀ z ∈ zs, i64 z) (hm : t.1.length + 8 * zs.length ≤ 140737488355328) :
    Calls Try.prog 32 #[.pointer (some ⟨g, 0, none⟩), .slice (some ⟨w.heap.size, 0, none⟩) n n] (w.alloc (.cells (ivs zs).toArray 3)) fun e w' => e = .returned (.tuple #[]) ∧ ∃ v', Kv w base g v w' v' (noteS t 8 true zs) := by
  have n1 := New.alloc w (.cells (ivs zs).toArray 3)
  refine (rnumbers_ok base g v t (some ⟨w.heap.size, 0, none⟩) n n zs _ (c.new n1) (row_alloc w (ivs zs) _ _) hn hb hm).mono ?_
  rintro e w' ⟨rfl, v', k'⟩
  exact ⟨rfl, v', ((Kv.refl c).new n1).then k'⟩
theorem rmany_ok (base g : Nat) (v : Value) (t : WT) (n : Nat) (w : World) (c : Vw w base g v t) (hn : n ≤ 17592186044416) (hm : t.1.length ≤ 1000000000) :
    Calls Try.prog 33 #[.pointer (some ⟨g, 0, none⟩), .int .i64 (n : Int)] w fun e w' => e = .returned (.tuple #[]) ∧ ∃ v' t', Kv w base g v w' v' t' ∧ Wri (num 4 false Image.w4) 4 t (n : Int) t' := by
  refine enter ok Try.func33 rfl rfl rfl ?_
  refine call_ (rput1_ok base g v t 4 false [(n : Int)] 1 w c rfl (fun z hz => by rw [List.mem_singleton.1 hz]; unfold i64; omega) (by simp; omega)) ?_
  rintro e w1 ⟨rfl, v1, k1⟩
  refine ⟨_, rfl, ?_⟩
  exact ⟨rfl, v1, _, k1, Wri.num Image.w4 fun h => fits_small (.inr (.inr rfl)) h⟩
def kVal (x : Val) : Prop := i64 x.kind ∧ i64 x.n
theorem rvalues_ok (base g : Nat) (v : Value) (t : WT) (vl : Value) (xs : List Val) (w : World) (c : Vw w base g v t) (hl : LRep valR w (fun b => base ≤ b) vl xs) (hf : ∀ x ∈ xs, kVal x) (hm : t.1.length + (4 + csum cVal xs) ≤ 1000000000) :
    Calls Try.prog 34 #[.pointer (some ⟨g, 0, none⟩), vl] w fun e w' => e = .returned (.tuple #[]) ∧ ∃ v' t', Kv w base g v w' v' t' ∧ Wri (list 4 Image.w4 valF) (4 + csum cVal xs) t xs t' := by
  obtain ⟨Al, cl, rfl, h43, _⟩ := hl.get valOk (by decide)
  refine enter ok Try.func34 rfl rfl rfl ?_
  refine seq_cut (σ := Value × WT) (fun _ => [(0, .pointer (some ⟨g, 0, none⟩)), (1, .slice Al xs.length cl)]) (fun s w' => Kv w base g v w' s.1 s.2 ∧ Wri (num 4 false Image.w4) 4 t (xs.length : Int) s.2) ?_ ?_
  rotate_left
  · intro K hK
    refine call_ (rmany_ok base g v t xs.length w c h43 (by omega)) ?_
    rintro e w3 ⟨rfl, v3, t3, k3, wr3⟩
    refine ⟨_, rfl, ?_⟩
    exact hK (v3, t3) _ _ ⟨rfl, rfl, trivial⟩ ⟨k3, wr3⟩
  rintro ⟨v2, t2⟩ w2 fr2 ⟨k2, wr2⟩
  dsimp only at k2 wr2
  refine seq_assign ?_
  refine den_loop (σ := Nat × Value × WT) (fun s => [(0, .pointer (some ⟨g, 0, none⟩)), (1, .slice Al xs.length cl), (4, .int .i64 (s.1 : Int))])
    (fun m s wl => m + s.1 = xs.length ∧ Kv w base g v wl s.2.1 s.2.2 ∧ WLst valF cVal t xs s.1 s.2.2) xs.length (0, v2, t2) ⟨rfl, rfl, rfl, trivial⟩ ⟨rfl, k2, WLst.start wr2⟩ ?_
  rintro m ⟨i, v3, t3⟩ wl frl ⟨hfuel, kl, hw⟩
  dsimp only at hfuel kl hw
  refine if_p (fun hlt => ?_) (fun hge => ?_)
  · replace hlt : (i : Int) < (xs.length : Int) := hlt
    have hi : i < xs.length := by omega
    obtain ⟨m, rfl⟩ : ∃ m', m = m' + 1 := ⟨m - 1, by omega⟩
    have inc := incN hi h43
    have hcs : csum cVal (xs.take i) + 9 ≤ csum cVal xs := by
      have h1 := csum_le cVal xs (i + 1)
      rw [List.take_succ_eq_append_getElem hi, csum_snoc] at h1
      exact h1
    have hw1 := hw.1
    obtain ⟨Al', cl', he, _, gx⟩ := (LRep.mod valOk (by decide) hl (c.old kl.mod)).get valOk (by decide)
    cases he
    obtain ⟨a, cs, ea, hx, hc⟩ := gx i hi
    obtain ⟨y, hy⟩ : ∃ y, y = xs[i] := ⟨_, rfl⟩
    have hfy : kVal y := by rw [hy]; exact hf _ (List.getElem_mem hi)
    rw [← hy] at hx
    obtain rfl := hx
    refine And.intro (by omega) (And.intro hlt ?_)
    refine some_at ea ?_
    refine Exists.intro y.kind (And.intro (by rw [Int.toNat_natCast]; exact hc 0 _ rfl) ?_)
    refine call_ (rput1_ok base g v3 t3 1 false [y.kind] 1 wl kl.vw rfl (fun z hz => by rw [List.mem_singleton.1 hz]; exact hfy.1) (by simp; omega)) ?_
    rintro e w5 ⟨rfl, v5, k5⟩
    refine ⟨_, rfl, ?_⟩
    have q1 := Wri.num (t := t3) Image.w1 (sign := false) (n := y.kind) fun h => fits_small (.inl rfl) h
    generalize noteS t3 1 false [y.kind] = t5 at k5 q1
    have p1 := q1.1
    have kl5 := kl.then k5
    obtain ⟨Al'', cl'', he, _, gx'⟩ := (LRep.mod valOk (by decide) hl (c.old kl5.mod)).get valOk (by decide)
    cases he
    obtain ⟨a', cs', ea', hx', hc'⟩ := gx' i hi
    rw [← hy] at hx'
    obtain rfl := hx'
    refine And.intro (by omega) (And.intro hlt ?_)
    refine some_at ea' ?_
    refine Exists.intro y.n (And.intro (by rw [Int.toNat_natCast]; exact hc' 1 _ rfl) ?_)
    refine call_ (rnumbers1_ok base g v5 t5 [y.n] 1 w5 k5.vw rfl (fun z hz => by rw [List.mem_singleton.1 hz]; exact hfy.2) (by simp; omega)) ?_
    rintro e w6 ⟨rfl, v6, k6⟩
    refine ⟨_, rfl, ?_⟩
    exact ⟨m, (i + 1, v6, _), by omega, ⟨rfl, rfl, inc, trivial⟩, by dsimp only; omega, kl5.then k6, hw.step hi (by rw [← hy]; exact wri_val q1 (Wri.num w8 fun _ => hfy.2))⟩
  · replace hge : ¬ (i : Int) < (xs.length : Int) := hge
    obtain rfl : i = xs.length := by omega
    exact ⟨rfl, v3, t3, kl, hw.done⟩
/-! ### Numbers, all at once -/
theorem noteS_nil (t : WT) : noteS t 8 true [] = t := by
  have hg : good (8 : Nat) true [] = true := by unfold good; rfl
  unfold noteS allBs
  rw [hg]
  simp
theorem wri_ints {t t1 : WT} {xs : List Int} (h : Wri (num 4 false Image.w4) 4 t (xs.length : Int) t1) (hf : ∀ x ∈ xs, i64 x) : Wri intsF (4 + csum cInt xs) t xs (noteS t1 8 true xs) := by
  have key : ∀ i, i ≤ xs.length → WLst n8 cInt t xs i (noteS t1 8 true (xs.take i)) := by
    intro i
    induction i with
    | zero =>
      intro _
      rw [List.take_zero, noteS_nil]
      exact WLst.start h
    | succ i ih =>
      intro hi
      rw [List.take_succ_eq_append_getElem (by omega), noteS_snoc]
      exact (ih (by omega)).step (by omega) (Wri.num w8 fun _ => hf _ (List.getElem_mem _))
  have := key xs.length (Nat.le_refl _)
  rw [List.take_length] at this
  exact this.done
theorem ints_cells : ∀ {ts : List (List Value × Int)}, (∀ t ∈ ts, t.1 = [zi t.2]) → cellsOf ts = ivs (ts.map (·.2))
  | [], _ => rfl
  | t :: l, h => by
    have h1 := h t List.mem_cons_self
    have h2 := ints_cells (ts := l) fun y hy => h y (List.mem_cons_of_mem _ hy)
    show t.1 ++ cellsOf l = zi t.2 :: ivs (l.map (·.2))
    rw [h1, h2]
    rfl
theorem ints_row {w : World} {S : Nat → Prop} {v : Value} {xs : List Int} (h : LRep intR w S v xs) : ∃ A c, v = .slice A xs.length c ∧ xs.length ≤ 17592186044416 ∧ Row w A (ivs xs) := by
  obtain ⟨A, c, ts, rfl, rfl, _, _, h5, h6⟩ := h
  refine ⟨A, c, rfl, h5, ?_⟩
  rw [← ints_cells h6.mem]
  exact h6.row

end Go.Proofs.Yteanhakkceancaa.Image

/- The texts PWalk7, PMap, PWalk8, PRead, PWalk9, PWalk10, PWalk11, Str, PReadW, PWrite, KRep, KWrite1, KRef1, KRef2, KWrite2, KWrite3, KRef3, KRef4 behind one another, merged by mrg.py; each says in its own place what it proves. -/
import Derived.Lib.ConvBytes
import Derived.Lib.AppendStr
import Derived.Test.YtdcaafldnbcdkaaGreatDoorGZ2

/-! ### PWalk7 -/
namespace Go.Proofs.YtdcaafldnbcdkaaGreatDoor.Pool
open Go Go.Proofs.YtdcaafldnbcdkaaGreatDoor Go.Proofs.YtdcaafldnbcdkaaGreatDoor.Eng Go.Proofs
set_option maxRecDepth 10000

theorem mean_c0 {l : List Ent} {i : Int} (h : (mean l i).tag = 0) : mean l i = c0 := by
  unfold mean at h ⊢
  split
  · rename_i h1
    rw [if_pos h1] at h
    simp only at h
    omega
  rename_i h1
  rw [if_neg h1] at h
  split
  · rename_i h2
    rw [if_pos h2] at h
    simp only at h
    omega
  rename_i h2
  rw [if_neg h2] at h
  split
  · rename_i h3
    rw [if_pos h3] at h
    simp only at h
    omega
  · rfl
theorem chk_cases (l : List Ent) : chk l = 70 ∧ okB l = false ∨ chk l = 0 ∧ okB l = true := by
  unfold chk
  cases h : okB l
  · exact .inl ⟨rfl, rfl⟩
  · exact .inr ⟨rfl, rfl⟩
theorem conC_bad {l : List Ent} (i : Int) (h : okB l = false) : conC l i = c0 ∧ conE l i = 70 := by
  unfold conC conE
  rw [h]
  exact ⟨rfl, rfl⟩
theorem conC_good {l : List Ent} (i : Int) (h : okB l = true) : conC l i = mean l i ∧ conE l i = if (mean l i).tag = 0 then 2 else 0 := by
  unfold conC conE
  rw [h]
  exact ⟨rfl, rfl⟩
theorem RConst_ok (A : Option Addr) (n c : Nat) (l : List Ent) (i : Int) (w : World) (h : Pl w A n l) :
    Calls Tryz.prog 66 #[.slice A n c, .int .i64 i] w fun e w' => e = .returned (.tuple #[conV (conC l i), .int .i64 (conE l i)]) ∧ New w w' := by
  refine enter ok Tryz.func66 rfl rfl rfl ?_
  have hb0 := heap_alloc_new w (.cells conZ 127)
  have n0 := New.alloc w (.cells conZ 127)
  refine call_ (RCheck_ok A n c l (w.alloc (.cells conZ 127)) (h.new n0)) ?_
  rintro e w1 ⟨rfl, n1⟩
  refine ⟨_, rfl, ?_⟩
  have k1 := n0.trans n1
  have hb1 := n1.blk hb0
  rcases chk_cases l with ⟨hc, ho⟩ | ⟨hc, ho⟩
  · obtain ⟨e1, e2⟩ := conC_bad i ho
    rw [hc, e1, e2]
    refine And.intro rfl ?_
    refine storeN_all (vs := conCs c0) hb1 rfl (conCs_one c0) ?_
    intro w9 hb9 m9 s9
    refine loadN_row (vs := conCs c0) (rowB hb9) rfl ?_
    exact ⟨rfl, k1.st m9 (Nat.le_refl _)⟩
  obtain ⟨e1, e2⟩ := conC_good i ho
  rw [hc, e1, e2]
  refine call_ (rmean_ok A n c l i w1 (h.new k1) ((okB_iff l).1 ho).1) ?_
  rintro e w2 ⟨rfl, n2⟩
  refine ⟨_, rfl, ?_⟩
  have k2 := k1.trans n2
  have hb2 := n2.blk hb1
  refine And.intro rfl ?_
  refine storeNew (vs := conCs (mean l i)) (arr := conZ) rfl (conCs_one _) ?_
  intro w3 hb3 n3 s3
  have k3 := k2.trans n3
  have hb03 := n3.blk hb2
  refine Exists.intro (mean l i).tag (And.intro (cellB hb3 rfl) ?_)
  refine if_p (fun h0 => ?_) (fun h0 => ?_)
  · rw [if_pos (show (mean l i).tag = 0 from h0)]
    rw [mean_c0 h0]
    refine And.intro rfl ?_
    refine storeN_all (vs := conCs c0) hb03 rfl (conCs_one _) ?_
    intro w9 hb9 m9 s9
    refine loadN_row (vs := conCs c0) (rowB hb9) rfl ?_
    exact ⟨rfl, k3.st m9 (Nat.le_refl _)⟩
  · rw [if_neg (show ¬ (mean l i).tag = 0 from h0)]
    refine loadN_row (vs := conCs (mean l i)) (rowB hb3) rfl ?_
    refine And.intro rfl ?_
    refine storeN_all (vs := conCs (mean l i)) hb03 rfl (conCs_one _) ?_
    intro w9 hb9 m9 s9
    refine loadN_row (vs := conCs (mean l i)) (rowB hb9) rfl ?_
    exact ⟨rfl, k3.st m9 (Nat.le_refl _)⟩
theorem RText_ok (A : Option Addr) (n c : Nat) (l : List Ent) (i : Int) (w : World) (h : Pl w A n l) :
    Calls Tryz.prog 67 #[.slice A n c, .int .i64 i] w fun e w' => e = .returned (.tuple #[strV (textS l i), .int .i64 (textE l i)]) ∧ New w w' := by
  refine enter ok Tryz.func67 rfl rfl rfl ?_
  refine call_ (RCheck_ok A n c l w h) ?_
  rintro e w1 ⟨rfl, n1⟩
  refine ⟨_, rfl, ?_⟩
  unfold textS textE
  rcases chk_cases l with ⟨hc, ho⟩ | ⟨hc, ho⟩
  · rw [hc, ho]
    exact ⟨rfl, n1⟩
  rw [hc, ho, if_pos rfl, if_pos rfl]
  refine call_ (rtag_ok A n c l i w1 (h.new n1)) ?_
  rintro e w2 ⟨rfl, rfl⟩
  refine ⟨_, rfl, ?_⟩
  refine if_n (fun hne => ?_) (fun he => ?_)
  · rw [if_neg (show ¬ tagAt l i = 1 from hne), if_neg (show ¬ tagAt l i = 1 from hne)]
    exact ⟨rfl, n1⟩
  · replace he : tagAt l i = 1 := he
    rw [if_pos he, if_pos he]
    obtain ⟨k, a, rfl, hk, rfl, _, _, hcc⟩ := ref_at h (by decide) he
    have htop := h.top
    refine And.intro (by omega) (And.intro (by omega) ?_)
    refine Exists.intro (⟨(at_ l k).text.toArray⟩ : ByteArray) (And.intro (by rw [Int.toNat_natCast]; exact n1.cell (hcc 1 _ rfl)) ?_)
    exact ⟨rfl, n1⟩
end Go.Proofs.YtdcaafldnbcdkaaGreatDoor.Pool

/-! ### PMap -/
namespace Go.Proofs.YtdcaafldnbcdkaaGreatDoor.Pool
open Go Go.Proofs.YtdcaafldnbcdkaaGreatDoor Go.Proofs.YtdcaafldnbcdkaaGreatDoor.Eng Go.Proofs
set_option maxRecDepth 10000

def entFs : List Field := match T 85 with
  | some ti => match ti.desc with
    | .struct fs => fs.toList
    | _ => []
  | none => []
theorem uEnt : Tryz.prog.underlying 85 = some (.struct entFs.toArray) := by kernel_rfl
theorem ptypes : ∃ m, Tryz.prog.types.size = m + 1 := ⟨Tryz.prog.types.size - 1, by
  have : 0 < Tryz.prog.types.size := by decide +kernel
  omega⟩
theorem lits_int (m : Nat) {z : Int} (h : I64 z) : Tryz.prog.keyLits (m + 1) 3 [.int .i64 z] = some [.int .i64 z] := by
  have hw : (Lit.int .i64 z).wf = true := by
    obtain ⟨h1, h2⟩ := h
    simp [Lit.wf, IntKind.min, IntKind.max, IntKind.signed, IntKind.bits]
    omega
  simp [Program.keyLits, uInt, hw]
theorem lits_str (m : Nat) {s : List UInt8} (h : s.length ≤ 9223372036854775807) : ∃ q, Tryz.prog.keyLits (m + 1) 9 [strV s] = some q := by
  refine ⟨[.string s], ?_⟩
  have hw : (ByteArray.mk s.toArray).size ≤ maxLen := by rw [size_str]; unfold maxLen; omega
  simp [Program.keyLits, uStr, strV, hw]
theorem keyOf_ent {x : Ent} (h : EntOk x) : ∃ q, keyOf Tryz.prog 85 (entV x) = some q := by
  obtain ⟨m, hm⟩ := ptypes
  obtain ⟨q, hq⟩ := lits_str m h.text
  have hkt : Tryz.prog.keyType 85 = true := by kernel_rfl
  have hf : (entV x).formed Tryz.prog 85 = true := by
    simp only [Value.formed, entV, uEnt]
    rw [show Tryz.prog.cellsOf 85 = 5 from cEnt]
    rfl
  have e1 := lits_int m h.tag
  have e3 := lits_int m h.n
  have e4 := lits_int m h.a
  have e5 := lits_int m h.b
  refine ⟨.string (keyBytes ([.int .i64 x.tag] ++ q ++ [.int .i64 x.n] ++ [.int .i64 x.a] ++ [.int .i64 x.b])), ?_⟩
  have hl : Tryz.prog.keyLits (Tryz.prog.types.size + 1) 85 (entV x).cells.toList = some ([.int .i64 x.tag] ++ q ++ [.int .i64 x.n] ++ [.int .i64 x.a] ++ [.int .i64 x.b]) := by
    rw [hm]
    have hc : (entV x).cells.toList = entC x := rfl
    rw [hc]
    have hn : (entFs.toArray.all fun f => f.name != "_") = true := by kernel_rfl
    have hlen : (entC x).length = Tryz.prog.cellsOf 85 := by rw [cEnt]; rfl
    have hcond : (entC x).length = Tryz.prog.cellsOf 85 ∧ (entFs.toArray.all fun f => f.name != "_") = true := ⟨hlen, hn⟩
    have hstep : Tryz.prog.keyLits (m + 1 + 1) 85 (entC x) = (entFs.mapM fun f => Tryz.prog.keyLits (m + 1) f.type (((entC x).drop f.offset).take (Tryz.prog.cellsOf f.type))).map List.flatten := by
      conv => lhs; unfold Program.keyLits
      rw [uEnt]
      simp only
      rw [if_pos hcond]
    rw [hstep]
    have hfs : entFs.map (fun f => (f.type, f.offset)) = [(3, 0), (9, 1), (3, 2), (3, 3), (3, 4)] := by kernel_rfl
    have hmm : (entFs.mapM fun f => Tryz.prog.keyLits (m + 1) f.type (((entC x).drop f.offset).take (Tryz.prog.cellsOf f.type))) = ((entFs.map (fun f => (f.type, f.offset))).mapM fun p : TypeId × Nat => Tryz.prog.keyLits (m + 1) p.1 (((entC x).drop p.2).take (Tryz.prog.cellsOf p.1))) := by
      rw [List.mapM_map]
      rfl
    rw [hmm, hfs]
    simp only [List.mapM_cons, List.mapM_nil, cInt, cStr]
    have d0 : ((entC x).drop 0).take 1 = [.int .i64 x.tag] := rfl
    have d1 : ((entC x).drop 1).take 1 = [strV x.text] := rfl
    have d2 : ((entC x).drop 2).take 1 = [.int .i64 x.n] := rfl
    have d3 : ((entC x).drop 3).take 1 = [.int .i64 x.a] := rfl
    have d4 : ((entC x).drop 4).take 1 = [.int .i64 x.b] := rfl
    rw [d0, d1, d2, d3, d4, e1, hq, e3, e4, e5]
    simp
  unfold keyOf
  rw [uEnt]
  simp only
  rw [if_pos (by rw [hkt, hf]; rfl), hl]
  rfl
def entK (v : Value) : Prop := ∃ l, keyOf Tryz.prog 85 v = some l
theorem entKey {x : Ent} (h : EntOk x) : entK (entV x) := keyOf_ent h
theorem entLaw : KeyL Tryz.prog 85 entK := keyL_deep (deep_law (m := 3) (by decide) (by kernel_rfl) (by kernel_rfl) (by rw [uEnt]))
theorem entV_inj {x y : Ent} (h : entV x = entV y) : x = y := by
  unfold entV strV at h
  simp only [Value.agg.injEq, Array.mk.injEq, List.cons.injEq, Value.int.injEq, Value.string.injEq, ByteArray.mk.injEq, true_and, and_true] at h
  obtain ⟨h1, h2, h3, h4, h5⟩ := h
  exact (Ent.iff x y).1 ⟨h1, h2, h3, h4, h5⟩
end Go.Proofs.YtdcaafldnbcdkaaGreatDoor.Pool

/-! ### PWalk8 -/
namespace Go.Proofs.YtdcaafldnbcdkaaGreatDoor.Pool
open Go Go.Proofs.YtdcaafldnbcdkaaGreatDoor Go.Proofs.YtdcaafldnbcdkaaGreatDoor.Eng Go.Proofs
set_option maxRecDepth 10000

/-! ### What is found behind adding -/
theorem find_self {l : List Ent} {x : Ent} (h1 : 1 ≤ l.length) (h : find l x = none) : find (l ++ x :: tailOf x) x = some l.length := by
  unfold find at h ⊢
  refine first_of h1 (by rw [List.length_append, List.length_cons]; omega) (decide_eq_true at_new) fun j hj hk => ?_
  have := first_none h j hj (by omega)
  rw [at_app _ hk]
  exact this
theorem find_other {l : List Ent} {x y : Ent} (h1 : 1 ≤ l.length) (hy : y ≠ x) (ht : y.tag ≠ 0) : find (l ++ x :: tailOf x) y = find l y := by
  cases h : find l y with
  | some k =>
    obtain ⟨p1, p2, p3, p4⟩ := first_some h
    refine first_of p1 (by rw [List.length_append, List.length_cons]; omega) ?_ fun j hj hk => ?_
    · rw [at_app _ (by omega)]; exact p3
    · rw [at_app _ (by omega)]; exact p4 j hj hk
  | none =>
    refine first_none_of fun j hj hk => decide_eq_false ?_
    rcases Nat.lt_trichotomy j l.length with h' | h' | h'
    · rw [at_app _ h']
      exact of_decide_eq_false (first_none h j hj (by omega))
    · subst h'
      rw [at_new]
      exact fun e => hy e.symm
    · unfold tailOf at hk ⊢
      split at hk
      · rename_i h5
        rw [if_pos h5]
        simp at hk
        have : j = l.length + 1 := by omega
        subst this
        rw [at_lt (by simp), List.getElem_append_right (by omega)]
        simp only [Nat.add_sub_cancel_left, List.getElem_cons_succ, List.getElem_cons_zero]
        intro e
        rw [← e] at ht
        exact ht rfl
      · rename_i h5
        simp at hk
        omega
theorem zInt (w : World) : (zeroValue 3).run Tryz.prog w = .ok (.int .i64 0) w := by
  obtain ⟨j, z, h1, _, _, h2, h3⟩ := ok.info 3 _ rfl
  have hz : z = .int .i64 0 := by
    have e1 : (Tryz.prog.info? 3).bind (·.zero) = some (.int .i64 0) := by kernel_rfl
    rw [h1] at e1
    simp only [Option.bind_some] at e1
    rw [h2] at e1
    exact Option.some.inj e1
  subst hz
  simp [zeroValue, typeInfo, h1, h2]

/-! ### What makes a pool -/
abbrev MS (g r : Nat) (v : Value) : Nat → Prop := fun b => b = g ∨ b = r ∨ some b = v.ownBlock
theorem ents_flen (l : List Ent) : (l.map entC).flatten.length = l.length * 5 := by
  induction l with
  | nil => rfl
  | cons r l ih => rw [List.map_cons, List.flatten_cons, List.length_append, ih, List.length_cons]; show 5 + _ = _; omega
theorem ents_snoc (l : List Ent) (x : Ent) : ((l ++ [x]).map entC).flatten = (l.map entC).flatten ++ entC x := by simp
theorem ok_e0 : EntOk e0 := ⟨by unfold I64; decide, by decide, by unfold I64; decide, by unfold I64; decide, by unfold I64; decide⟩
open Classical in
noncomputable def upf (f : Value → Option Value) (k v : Value) : Value → Option Value := fun y => if y = k then some v else f y
theorem upf_same (f : Value → Option Value) (k v : Value) : upf f k v k = some v := by unfold upf; rw [if_pos rfl]
theorem upf_other (f : Value → Option Value) (k v : Value) (y : Value) (h : y ≠ k) : upf f k v y = f y := by unfold upf; rw [if_neg h]
theorem i0 : I64 0 := ⟨by omega, by omega⟩
theorem ok_utf {s : List UInt8} (h : s.length ≤ 9223372036854775807) : EntOk ⟨1, s, 0, 0, 0⟩ := ⟨(show I64 1 from ⟨by omega, by omega⟩), h, i0, i0, i0⟩
theorem ok_ref {t : Int} (ht : 0 ≤ t ∧ t ≤ 100) {a b : Nat} (ha : a ≤ 10000) (hb : b ≤ 10000) : EntOk ⟨t, [], 0, a, b⟩ := ⟨(show I64 t from ⟨by omega, by omega⟩), by simp, i0, (show I64 (a : Int) from ⟨by omega, by omega⟩), (show I64 (b : Int) from ⟨by omega, by omega⟩)⟩
theorem ok_num {t n : Int} (ht : I64 t) (hn : I64 n) : EntOk ⟨t, [], n, 0, 0⟩ := ⟨ht, by simp, hn, i0, i0⟩
theorem Mk.then {w w1 w2 : World} {g r : Nat} {v v1 v2 : Value} (m1 : Mod (MS g r v) w w1) (s1 : stayed w v v1) (m2 : Mod (MS g r v1) w1 w2) (s2 : stayed w1 v1 v2) : Mod (MS g r v) w w2 ∧ stayed w v v2 := by
  have hsz := m1.size
  refine ⟨Mod.trans m1 m2 fun b hb e => ?_, fun b hb => ?_⟩
  · rcases e with e | e | e
    · exact .inl e
    · exact .inr (.inl e)
    · rcases s1 b e.symm with h | h
      · exact .inr (.inr h.symm)
      · omega
  · rcases s2 b hb with h | h
    · exact s1 b h
    · exact .inr (by omega)
theorem add_len (l : List Ent) (x : Ent) : l.length ≤ (add l x).1.length ∧ (add l x).1.length ≤ l.length + 2 ∧ (1 ≤ l.length → 1 ≤ (add l x).2 ∧ (add l x).2 < (add l x).1.length) := by
  unfold add
  cases h : find l x with
  | some k =>
    obtain ⟨h1, h2, _⟩ := find_some h
    exact ⟨Nat.le_refl _, by simp, fun _ => ⟨h1, h2⟩⟩
  | none =>
    have : (tailOf x).length ≤ 1 := by unfold tailOf; split <;> simp
    simp only [List.length_append, List.length_cons]
    exact ⟨by omega, by omega, fun h => ⟨h, by omega⟩⟩
end Go.Proofs.YtdcaafldnbcdkaaGreatDoor.Pool

/-! ### PRead -/
namespace Go.Proofs.YtdcaafldnbcdkaaGreatDoor.Pool
open Go Go.Proofs.YtdcaafldnbcdkaaGreatDoor.Eng Go.Proofs.YtdcaafldnbcdkaaGreatDoor.Word Go.Proofs.YtdcaafldnbcdkaaGreatDoor.Fmt
set_option maxRecDepth 10000

def textR (bs : List UInt8) (t : Int) (n : Int × Nat × Int) : Ent × Nat × Int :=
  if n.2.2 = 0 then (⟨t, (getB bs n.2.1 n.1).1, 0, 0, 0⟩, (getB bs n.2.1 n.1).2.2, (getB bs n.2.1 n.1).2.1) else (⟨t, [], 0, 0, 0⟩, n.2)
def bodyR (bs : List UInt8) (t : Int) (s : Nat × Int) : Ent × Nat × Int :=
  if t = 1 then textR bs t (numR bs false 2 s)
  else if t = 3 then (⟨t, [], (numR bs true 4 s).1, 0, 0⟩, (numR bs true 4 s).2)
  else if t = 5 then (⟨t, [], (numR bs true 8 s).1, 0, 0⟩, (numR bs true 8 s).2)
  else if t = 9 ∨ t = 10 ∨ t = 12 then (⟨t, [], 0, (numR bs false 2 s).1, (numR bs false 2 (numR bs false 2 s).2).1⟩, (numR bs false 2 (numR bs false 2 s).2).2)
  else if t = 7 then (⟨t, [], 0, (numR bs false 2 s).1, 0⟩, (numR bs false 2 s).2)
  else (⟨t, [], 0, 0, 0⟩, s.1, 70)
def entR (bs : List UInt8) (s : Nat × Int) : Ent × Nat × Int :=
  if (numR bs false 1 s).2.2 = 0 then bodyR bs (numR bs false 1 s).1 (numR bs false 1 s).2 else (⟨(numR bs false 1 s).1, [], 0, 0, 0⟩, (numR bs false 1 s).2)
def loopR (bs : List UInt8) (n : Int) : Nat → List Ent → Nat × Int → List Ent × Nat × Int
  | 0, acc, s => (acc, s)
  | f + 1, acc, s => if (acc.length : Int) < n ∧ s.2 = 0 then loopR bs n f (acc ++ (entR bs s).1 :: tailOf (entR bs s).1) (entR bs s).2 else (acc, s)
/-- What stands behind the number of entries. -/
def readEnd (n : Int) (q : List Ent × Nat × Int) : List Ent × Nat × Int :=
  if q.2.2 ≠ 0 then ([], q.2) else if n < (q.1.length : Int) then ([], q.2.1, 70) else if okB q.1 = true then q else ([], q.2.1, 70)
def readR (bs : List UInt8) (i : Nat) : List Ent × Nat × Int :=
  if (numR bs false 2 (i, 0)).2.2 ≠ 0 then ([], (numR bs false 2 (i, 0)).2)
  else if (numR bs false 2 (i, 0)).1 < 1 ∨ 1024 < (numR bs false 2 (i, 0)).1 then ([], (numR bs false 2 (i, 0)).2.1, 70)
  else readEnd (numR bs false 2 (i, 0)).1 (loopR bs (numR bs false 2 (i, 0)).1 (numR bs false 2 (i, 0)).1.toNat [e0] (numR bs false 2 (i, 0)).2)

/-! ### Against the format -/
theorem says_text (bs : List UInt8) (i : Nat) (hi : i ≤ bs.length) (t : Int) : Says bs i ((via (text 2 w2) (fun s => (⟨t, s, 0, 0, 0⟩ : Ent)) (·.text) (fun _ _ => rfl)).parse (bs.drop i)) (textR bs t (numR bs false 2 (i, 0))) := by
  have hp : (via (text 2 w2) (fun s => (⟨t, s, 0, 0, 0⟩ : Ent)) (·.text) (fun _ _ => rfl)).parse (bs.drop i) = ((numP 2 false (bs.drop i)).bind fun p => rawP p.1 p.2).map fun p => (⟨t, p.1, 0, 0, 0⟩, p.2) := rfl
  rw [hp]
  rcases says_num bs false 2 w2 i hi with ⟨v, j, e1, e2, e3, e4⟩ | ⟨e1, e2, e3⟩
  · change numP 2 false (bs.drop i) = _ at e1
    rw [e1, e2, Option.bind_some]
    unfold textR rawP getB
    rw [if_pos rfl]
    simp only [List.length_drop]
    by_cases h0 : v < 0
    · rw [if_pos (.inl h0), if_pos h0]
      exact .inr ⟨rfl, by simp, e3, e4⟩
    by_cases h1 : (bs.length : Int) - j < v
    · rw [if_pos (.inr (by omega)), if_neg h0, if_pos h1]
      exact .inr ⟨rfl, by simp, e3, e4⟩
    · rw [if_neg (by omega), if_neg h0, if_neg h1]
      exact .inl ⟨_, j + v.toNat, by rw [List.drop_drop]; rfl, rfl, by omega, by omega⟩
  · change numP 2 false (bs.drop i) = _ at e1
    rw [e1]
    unfold textR
    rw [if_neg e2]
    exact .inr ⟨rfl, e2, e3⟩
theorem says_body (bs : List UInt8) (t : Int) (i : Nat) (hi : i ≤ bs.length) : Says bs i ((bodyF t).parse (bs.drop i)) (bodyR bs t (i, 0)) := by
  unfold bodyF bodyR
  by_cases h1 : t = 1
  · rw [if_pos h1, if_pos h1]
    exact says_text bs i hi t
  rw [if_neg h1, if_neg h1]
  by_cases h3 : t = 3
  · rw [if_pos h3, if_pos h3]
    exact says_via (fun n => (⟨t, [], n, 0, 0⟩ : Ent)) (·.n) (fun _ _ => rfl) (says_num bs true 4 w4 i hi)
  rw [if_neg h3, if_neg h3]
  by_cases h5 : t = 5
  · rw [if_pos h5, if_pos h5]
    exact says_via (fun n => (⟨t, [], n, 0, 0⟩ : Ent)) (·.n) (fun _ _ => rfl) (says_num bs true 8 w8 i hi)
  rw [if_neg h5, if_neg h5]
  by_cases h9 : t = 9 ∨ t = 10 ∨ t = 12
  · rw [if_pos h9, if_pos h9]
    refine says_via (F := dseq (num 2 false w2) fun _ => num 2 false w2) (fun p => (⟨t, [], 0, p.1, p.2⟩ : Ent)) (fun x => (x.a, x.b)) (fun _ _ => rfl)
      (Says.trans (r := fun q => numR bs false 2 q.2) (says_num bs false 2 w2 i hi) (fun v j _ hj => says_num bs false 2 w2 j hj) fun h => ?_)
    rw [numR_err bs false 2 h]
  rw [if_neg h9, if_neg h9]
  by_cases h7 : t = 7
  · rw [if_pos h7, if_pos h7]
    exact says_via (fun n => (⟨t, [], 0, n, 0⟩ : Ent)) (·.a) (fun _ _ => rfl) (says_num bs false 2 w2 i hi)
  rw [if_neg h7, if_neg h7]
  exact .inr ⟨rfl, by simp, Nat.le_refl _, hi⟩
theorem says_ent (bs : List UInt8) (i : Nat) (hi : i ≤ bs.length) : Says bs i (entF.parse (bs.drop i)) (entR bs (i, 0)) := by
  have h := says_via (β := Ent) (F := dseq (num 1 false w1) bodyF) (·.2) (fun x => (x.tag, x)) (fun p h => by
    obtain ⟨t, x⟩ := p
    have := (body_tag h.2).1
    simp only at this
    rw [this])
    (Says.trans (r := fun q => if q.2.2 = 0 then bodyR bs q.1 q.2 else (⟨q.1, [], 0, 0, 0⟩, q.2)) (says_num bs false 1 w1 i hi) (fun v j _ hj => by
      simp only [↓reduceIte]
      exact says_body bs v j hj) fun h => by rw [if_neg h])
  exact h
theorem loop_says (bs : List UInt8) (n : Nat) : ∀ (f : Nat) (acc : List Ent) (i : Nat), i ≤ bs.length → n ≤ f + acc.length → Says bs i (loopP n f acc (bs.drop i)) (loopR bs n f acc (i, 0))
  | 0, acc, i, hi, hf => by
    unfold loopP loopR
    rw [if_neg (by omega)]
    exact .inl ⟨acc, i, rfl, rfl, Nat.le_refl _, hi⟩
  | f + 1, acc, i, hi, hf => by
    unfold loopP loopR
    by_cases hl : acc.length < n
    · rw [if_pos hl, if_pos ⟨by omega, rfl⟩]
      rcases says_ent bs i hi with ⟨v, j, e1, e2, e3, e4⟩ | ⟨e1, e2, e3⟩
      · rw [e1, e2, Option.bind_some]
        simp only
        rcases loop_says bs n f (acc ++ v :: tailOf v) j e4 (by rw [List.length_append, List.length_cons]; omega) with ⟨u, k, f1, f2, f3, f4⟩ | ⟨f1, f2, f3, f4⟩
        · exact .inl ⟨u, k, f1, f2, by omega, f4⟩
        · exact .inr ⟨f1, f2, by omega, f4⟩
      · rw [e1]
        refine .inr ⟨rfl, ?_⟩
        have : ∀ (f : Nat) acc s, s.2 ≠ 0 → (loopR bs n f acc s).2 = s := by
          intro f acc s hs
          cases f with
          | zero => rfl
          | succ f => unfold loopR; rw [if_neg fun h => hs h.2]
        rw [this _ _ _ e2]
        exact ⟨e2, e3⟩
    · rw [if_neg hl, if_neg fun h => hl (by omega)]
      exact .inl ⟨acc, i, rfl, rfl, Nat.le_refl _, hi⟩
theorem read_says (bs : List UInt8) (i : Nat) (hi : i ≤ bs.length) : Says bs i (poolP (bs.drop i)) (readR bs i) := by
  unfold poolP readR
  rcases says_num bs false 2 w2 i hi with ⟨v, j, e1, e2, e3, e4⟩ | ⟨e1, e2, e3⟩
  · change numP 2 false (bs.drop i) = _ at e1
    rw [e1, e2, Option.bind_some]
    simp only
    rw [if_neg (show ¬ (0 : Int) ≠ 0 by simp)]
    by_cases hv : v < 1 ∨ 1024 < v
    · rw [if_pos hv, if_pos hv]
      exact .inr ⟨rfl, by simp, e3, e4⟩
    rw [if_neg hv, if_neg hv]
    obtain ⟨n, rfl⟩ : ∃ n : Nat, v = n := ⟨v.toNat, by omega⟩
    rw [Int.toNat_natCast]
    rcases loop_says bs n n [e0] j e4 (by simp) with ⟨u, k, f1, f2, f3, f4⟩ | ⟨f1, f2, f3, f4⟩
    · rw [f1, f2, Option.bind_some]
      unfold readEnd
      simp only
      rw [if_neg (show ¬ (0 : Int) ≠ 0 by simp)]
      by_cases hn : (n : Int) < (u.length : Int)
      · rw [if_pos hn, if_neg (by omega)]
        exact .inr ⟨rfl, by simp, by simp only; omega, f4⟩
      rw [if_neg hn]
      by_cases ho : okB u = true
      · rw [if_pos ho, if_pos ⟨by omega, ho⟩]
        exact .inl ⟨u, k, rfl, rfl, by omega, f4⟩
      · rw [if_neg ho, if_neg fun h => ho h.2]
        exact .inr ⟨rfl, by simp, by simp only; omega, f4⟩
    · rw [f1]
      unfold readEnd
      rw [if_pos f2]
      exact .inr ⟨rfl, f2, by simp only; omega, f4⟩
  · change numP 2 false (bs.drop i) = _ at e1
    rw [e1, if_pos e2]
    exact .inr ⟨rfl, e2, e3⟩
theorem readR_err {bs : List UInt8} {i : Nat} (h : (readR bs i).2.2 ≠ 0) : (readR bs i).1 = [] := by
  unfold readR at h ⊢
  split at h
  · rename_i h1; rw [if_pos h1]
  rename_i h1
  rw [if_neg h1]
  split at h
  · rename_i h2; rw [if_pos h2]
  rename_i h2
  rw [if_neg h2]
  unfold readEnd at h ⊢
  split at h
  · rename_i h3; rw [if_pos h3]
  rename_i h3
  rw [if_neg h3]
  split at h
  · rename_i h4; rw [if_pos h4]
  rename_i h4
  rw [if_neg h4]
  split at h
  · exact absurd (Decidable.not_not.1 h3) h
  · rename_i h5; rw [if_neg h5]
/-! ### Everything read is of 64 bits -/
theorem numR_i64 (bs : List UInt8) (sign : Bool) (k : Nat) (hk : wide (k : Int) = true) (s : Nat × Int) (hs : s.1 ≤ bs.length) : I64 (numR bs sign k s).1 ∧ s.1 ≤ (numR bs sign k s).2.1 ∧ (numR bs sign k s).2.1 ≤ bs.length := by
  by_cases h : s.2 = 0
  · obtain ⟨i, er⟩ := s
    simp only at h hs
    subst h
    rcases says_num bs sign k hk i hs with ⟨v, j, e1, e2, e3, e4⟩ | ⟨e1, e2, e3⟩
    · rw [e2]
      exact ⟨((num k sign hk).bwd _ _ _ e1).1.2, e3, e4⟩
    · refine ⟨?_, e3⟩
      have : (numR bs sign k (i, 0)).1 = 0 := by
        unfold numR at e2 ⊢
        rw [if_pos rfl] at e2 ⊢
        rcases get_num k sign hk bs i hs with ⟨v, h1, h2, h3⟩ | ⟨h1, e, he, h2⟩
        · rw [h2] at e2; exact absurd rfl e2
        · rw [h2]
      rw [this]
      exact i0
  · rw [numR_err bs sign k h]
    exact ⟨i0, Nat.le_refl _, hs⟩
theorem getB_le (bs : List UInt8) (i : Nat) (n : Int) (hi : i ≤ bs.length) : (getB bs i n).1.length ≤ bs.length ∧ i ≤ (getB bs i n).2.2 ∧ (getB bs i n).2.2 ≤ bs.length := by
  unfold getB
  split
  · exact ⟨by simp, Nat.le_refl _, hi⟩
  split
  · exact ⟨by simp, Nat.le_refl _, hi⟩
  · refine ⟨by simp only [List.length_take, List.length_drop]; omega, by simp only; omega, by simp only; omega⟩
theorem bodyR_ok (bs : List UInt8) (t : Int) (s : Nat × Int) (ht : I64 t) (hs : s.1 ≤ bs.length) (hb : bs.length ≤ 9223372036854775807) : EntOk (bodyR bs t s).1 ∧ s.1 ≤ (bodyR bs t s).2.1 ∧ (bodyR bs t s).2.1 ≤ bs.length := by
  unfold bodyR
  split
  · obtain ⟨h1, h2, h3⟩ := numR_i64 bs false 2 w2 s hs
    unfold textR
    split
    · obtain ⟨g1, g2, g3⟩ := getB_le bs (numR bs false 2 s).2.1 (numR bs false 2 s).1 h3
      exact ⟨⟨ht, by simp only; omega, i0, i0, i0⟩, by simp only; omega, g3⟩
    · exact ⟨⟨ht, by simp, i0, i0, i0⟩, h2, h3⟩
  split
  · obtain ⟨h1, h2, h3⟩ := numR_i64 bs true 4 w4 s hs
    exact ⟨⟨ht, by simp, h1, i0, i0⟩, h2, h3⟩
  split
  · obtain ⟨h1, h2, h3⟩ := numR_i64 bs true 8 w8 s hs
    exact ⟨⟨ht, by simp, h1, i0, i0⟩, h2, h3⟩
  split
  · obtain ⟨h1, h2, h3⟩ := numR_i64 bs false 2 w2 s hs
    obtain ⟨g1, g2, g3⟩ := numR_i64 bs false 2 w2 (numR bs false 2 s).2 h3
    exact ⟨⟨ht, by simp, i0, h1, g1⟩, Nat.le_trans h2 g2, g3⟩
  split
  · obtain ⟨h1, h2, h3⟩ := numR_i64 bs false 2 w2 s hs
    exact ⟨⟨ht, by simp, i0, h1, i0⟩, h2, h3⟩
  · exact ⟨⟨ht, by simp, i0, i0, i0⟩, Nat.le_refl _, hs⟩
theorem entR_ok (bs : List UInt8) (s : Nat × Int) (hs : s.1 ≤ bs.length) (hb : bs.length ≤ 9223372036854775807) : EntOk (entR bs s).1 ∧ s.1 ≤ (entR bs s).2.1 ∧ (entR bs s).2.1 ≤ bs.length := by
  obtain ⟨h1, h2, h3⟩ := numR_i64 bs false 1 w1 s hs
  unfold entR
  split
  · obtain ⟨g1, g2, g3⟩ := bodyR_ok bs (numR bs false 1 s).1 (numR bs false 1 s).2 h1 h3 hb
    exact ⟨g1, Nat.le_trans h2 g2, g3⟩
  · exact ⟨⟨h1, by simp, i0, i0, i0⟩, h2, h3⟩
end Go.Proofs.YtdcaafldnbcdkaaGreatDoor.Pool

/-! ### PWalk9 -/
namespace Go.Proofs.YtdcaafldnbcdkaaGreatDoor.Pool
open Go Go.Proofs.YtdcaafldnbcdkaaGreatDoor Go.Proofs.YtdcaafldnbcdkaaGreatDoor.Eng Go.Proofs
set_option maxRecDepth 10000

theorem conEq (x y : Con) : decide (x = y) = (decide (x.tag = y.tag) && (decide (x.n = y.n) && (decide ((⟨x.cl.toArray⟩ : ByteArray) = ⟨y.cl.toArray⟩) && (decide ((⟨x.nm.toArray⟩ : ByteArray) = ⟨y.nm.toArray⟩) && (decide ((⟨x.ty.toArray⟩ : ByteArray) = ⟨y.ty.toArray⟩) && true))))) := by
  rw [Base.same_iff, Base.same_iff, Base.same_iff]
  by_cases h : x = y
  · subst h; simp
  · rw [decide_eq_false h]
    symm
    have h' : ¬ (x.tag = y.tag ∧ x.n = y.n ∧ x.cl = y.cl ∧ x.nm = y.nm ∧ x.ty = y.ty) := fun e => h ((Con.iff x y).1 e)
    simpa using h'
theorem con_eql {o : Oper} {x y : Operand} {u : TypeId} {fr : Fr} {p q : Con} {w : World} {K : Fr → World → Prop} (ho : o.op = .binOp .eql 127 x y u) (hx : ev fr x = conV p) (hy : ev fr y = conV q) (k : K (putF fr o.dst (.bool (decide (p = q)))) w) : raw Tryz.prog o fr w K :=
  raw_value (agg_cmp ok ho rfl rfl (by kernel_rfl) (by kernel_rfl) hx hy rfl (decide (p = q)) (.inl ⟨rfl, conEq p q⟩) w) k
theorem con_neq {o : Oper} {x y : Operand} {u : TypeId} {fr : Fr} {p q : Con} {w : World} {K : Fr → World → Prop} (ho : o.op = .binOp .neq 127 x y u) (hx : ev fr x = conV p) (hy : ev fr y = conV q) (k : K (putF fr o.dst (.bool (!decide (p = q)))) w) : raw Tryz.prog o fr w K :=
  raw_value (agg_cmp ok ho rfl rfl (by kernel_rfl) (by kernel_rfl) hx hy rfl (!decide (p = q)) (.inr ⟨rfl, congrArg (!·) (conEq p q)⟩) w) k
end Go.Proofs.YtdcaafldnbcdkaaGreatDoor.Pool

/-! ### PWalk10 -/
namespace Go.Proofs.YtdcaafldnbcdkaaGreatDoor.Pool
open Go Go.Proofs.YtdcaafldnbcdkaaGreatDoor Go.Proofs.YtdcaafldnbcdkaaGreatDoor.Eng Go.Proofs
set_option maxRecDepth 10000

def ff (p : Nat → Bool) (n i : Nat) : Option Nat := first p (n - i) i
theorem ff_step {p : Nat → Bool} {n i : Nat} (h : i < n) : ff p n i = if p i then some i else ff p n (i + 1) := by
  unfold ff
  rw [show n - i = (n - (i + 1)) + 1 by omega, first]
theorem ff_end {p : Nat → Bool} {n : Nat} : ff p n n = none := by
  unfold ff
  rw [Nat.sub_self]
  rfl
def iv (k : Nat) : Value := .int .i64 (k : Int)
/-- The map holds what stands from a place on. -/
structure Fg (l : List Ent) (c : Con) (f : Value → Option Value) (i : Nat) : Prop where
  ent : ∀ x : Ent, EntOk x → x.tag ≠ 0 → f (entV x) = (ff (fun k => decide (at_ l k = x)) l.length i).map iv
  con : f (entV e0) = if c.tag = 0 then none else (ff (fun k => decide (mean l k = c)) l.length i).map iv
theorem fg_start (l : List Ent) (c : Con) : Fg l c (fun _ => none) l.length := by
  refine ⟨fun x _ _ => by rw [ff_end]; rfl, ?_⟩
  split
  · rfl
  · rw [ff_end]; rfl
open Classical in
noncomputable def fA (l : List Ent) (c : Con) (f : Value → Option Value) (i : Nat) : Value → Option Value := if c.tag ≠ 0 ∧ mean l i = c then upf f (entV e0) (iv i) else f
open Classical in
noncomputable def fB (l : List Ent) (f : Value → Option Value) (i : Nat) : Value → Option Value := if (at_ l i).tag ≠ 0 then upf f (entV (at_ l i)) (iv i) else f
theorem fg_step {l : List Ent} {c : Con} {f : Value → Option Value} {i : Nat} (hi : i < l.length) (h : Fg l c f (i + 1)) : Fg l c (fB l (fA l c f i) i) i := by
  refine ⟨fun x hx ht => ?_, ?_⟩
  · have ea : fA l c f i (entV x) = f (entV x) := by
      unfold fA
      split
      · exact upf_other _ _ _ _ fun e => ht (by rw [entV_inj e]; rfl)
      · rfl
    rw [ff_step hi]
    unfold fB
    by_cases hxi : at_ l i = x
    · rw [if_pos (by rw [hxi]; exact ht), hxi, upf_same, if_pos (decide_eq_true rfl)]
      rfl
    · rw [if_neg (show ¬ (decide (at_ l i = x) = true) by simpa using hxi)]
      split
      · rw [upf_other _ _ _ _ fun e => hxi (entV_inj e).symm, ea]
        exact h.ent x hx ht
      · rw [ea]
        exact h.ent x hx ht
  · have eb : fB l (fA l c f i) i (entV e0) = fA l c f i (entV e0) := by
      unfold fB
      split
      · rename_i h0
        exact upf_other _ _ _ _ fun e => h0 (by rw [← entV_inj e]; rfl)
      · rfl
    rw [eb]
    unfold fA
    by_cases hc : c.tag = 0
    · rw [if_neg (fun h => h.1 hc), if_pos hc]
      have := h.con
      rw [if_pos hc] at this
      exact this
    · rw [if_neg hc, ff_step hi]
      by_cases hm : mean l i = c
      · rw [if_pos ⟨hc, hm⟩, upf_same, if_pos (decide_eq_true hm)]
        rfl
      · rw [if_neg (fun h => hm h.2), if_neg (show ¬ (decide (mean l i = c) = true) by simpa using hm)]
        have := h.con
        rw [if_neg hc] at this
        exact this
theorem fA_yes {l : List Ent} {c : Con} {f : Value → Option Value} {i : Nat} (h0 : c.tag ≠ 0) (h : mean l i = c) : fA l c f i = upf f (entV e0) (iv i) := by unfold fA; rw [if_pos ⟨h0, h⟩]
theorem fA_no {l : List Ent} {c : Con} {f : Value → Option Value} {i : Nat} (h : ¬ (c.tag ≠ 0 ∧ mean l i = c)) : fA l c f i = f := by unfold fA; rw [if_neg h]
theorem fB_yes {l : List Ent} {f : Value → Option Value} {i : Nat} (h0 : (at_ l i).tag ≠ 0) : fB l f i = upf f (entV (at_ l i)) (iv i) := by unfold fB; rw [if_pos h0]
theorem fB_no {l : List Ent} {f : Value → Option Value} {i : Nat} (h0 : ¬ (at_ l i).tag ≠ 0) : fB l f i = f := by unfold fB; rw [if_neg h0]
def PutOk (w : World) (l : List Ent) (c : Con) (e : Ending) (w' : World) : Prop :=
  ∃ v, e = .returned (.tuple #[v, .int .i64 ((put l c).2.1 : Int), .int .i64 (put l c).2.2]) ∧ w'.ownsRow w.heap.size 85 5 v (put l c).1.length ((put l c).1.map entC).flatten ∧ New w w' ∧ ∀ x ∈ (put l c).1, EntOk x
end Go.Proofs.YtdcaafldnbcdkaaGreatDoor.Pool

/-! ### PWalk11 -/
namespace Go.Proofs.YtdcaafldnbcdkaaGreatDoor.Pool
open Go Go.Proofs.YtdcaafldnbcdkaaGreatDoor Go.Proofs.YtdcaafldnbcdkaaGreatDoor.Eng Go.Proofs
set_option maxRecDepth 10000

theorem entC_len (l : List Ent) : ∀ cs ∈ l.map entC, cs.length = 5 := by
  intro cs h
  obtain ⟨x, _, rfl⟩ := List.mem_map.1 h
  rfl
/-- A pool that was made is one in memory. -/
theorem pl_own {w : World} {b : Nat} {A : Option Addr} {n c : Nat} {l : List Ent} (h : w.ownsRow b 85 5 (.slice A n c) l.length (l.map entC).flatten) (hn : n = l.length) (ho : ∀ x ∈ l, EntOk x) : n ≤ c ∧ c ≤ 9223372036854775807 ∧ Pl w A n l := by
  obtain ⟨_, _, he, h1, h2, row, _⟩ := own_slice h
  cases he
  exact ⟨h1, h2, hn, rows2_of_row (entC_len l) (by decide) row, ho, by omega⟩
theorem SameEntries_ok (A B : Option Addr) (n c m d : Nat) (l : List Ent) (w : World) (ha : Pl w A n l) (hb : Pl w B m l) :
    Calls Tryz.prog 29 #[.slice A n c, .slice B m d] w fun e w' => e = .returned (.bool true) ∧ New w w' := by
  refine enter ok Tryz.func29 rfl rfl rfl ?_
  have hn := ha.len
  have hm := hb.len
  have htop := ha.top
  refine if_n (fun h => absurd (show (n : Int) = m by omega) h) (fun _ => ?_)
  refine den_loop (σ := Nat) (fun i => [(0, .slice A n c), (1, .slice B m d), (5, .int .i64 i)]) (fun k i wl => i ≤ n ∧ k = n - i ∧ New w wl) n 0 ⟨rfl, rfl, rfl, trivial⟩ ⟨Nat.zero_le _, rfl, New.refl _⟩ ?_
  rintro k i wl fr0 ⟨hi, rfl, nl⟩
  refine if_p (fun hlt => ?_) (fun hge => ?_)
  · replace hlt : (i : Int) < n := hlt
    obtain ⟨a, rfl, _, hca⟩ := ha.at_ (i := i) (by omega)
    obtain ⟨b, rfl, _, hcb⟩ := hb.at_ (i := i) (by omega)
    refine draw_ ok (.q 0 (.q 1 (.q 2 (.q 3 (.q 4 (.q 5 (.q 6 (.q 7 (.q 8 .done))))))))) [8] (New wl) (by kernel_rfl) (by kernel_rfl) (by kernel_rfl) (by kernel_rfl) (by kernel_rfl) (New.drew _) ?_
    refine And.intro (by omega) (And.intro hlt ?_)
    refine loadNC_row (vs := entC (at_ l i)) (fun j u hu w'' hw => by rw [Int.toNat_natCast]; exact hw.cell (nl.cell (hca j u hu))) rfl ?_
    refine And.intro (by omega) (And.intro (by omega) ?_)
    refine loadNC_row (vs := entC (at_ l i)) (fun j u hu w'' hw => by rw [Int.toNat_natCast]; exact hw.cell (nl.cell (hcb j u hu))) rfl ?_
    refine Exists.intro (.bool false) (And.intro (fun w'' _ => agg_cmp ok rfl rfl rfl (by kernel_rfl) (by kernel_rfl) rfl rfl rfl false (.inr ⟨rfl, (show false = !decide (at_ l i = at_ l i) by simp).trans (congrArg (!·) (entEq _ _))⟩) w'') ?_)
    refine ⟨n - (i + 1), i + 1, by omega, ⟨rfl, rfl, ?_, trivial⟩, by omega, rfl, nl.trans (New.drew _)⟩
    show Value.int .i64 (IntKind.i64.wrap _) = _
    rw [wrap_i64 (by omega) (by omega)]
    rfl
  · exact ⟨rfl, nl⟩
def cW : Con := ⟨10, 0, [97], [98], [40, 41, 86]⟩
theorem cW_ok : ConOk cW := ⟨by unfold I64; decide, by unfold I64; decide, by decide, by decide, by decide⟩
theorem putW : (put [e0] cW).1.length = 7 ∧ (put [e0] cW).2.1 = 6 ∧ (put [e0] cW).2.2 = 0 := by decide
theorem kept_con {l a : List Ent} {c : Con} {k : Nat} (h : Kept l c a k) : conC a k = c ∧ conE a k = 0 := by
  obtain ⟨e1, e2⟩ := conC_good (k : Int) h.ok
  rw [e1, e2, h.is, if_neg h.tag]
  exact ⟨rfl, rfl⟩
theorem Kept.con {l a : List Ent} {c : Con} {k : Nat} (h : Kept l c a k) : conC a k = c ∧ conE a k = 0 := kept_con h
end Go.Proofs.YtdcaafldnbcdkaaGreatDoor.Pool

/-! ### Str -/
namespace Go.Proofs.YtdcaafldnbcdkaaGreatDoor.Eng
open Go Go.Proofs.YtdcaafldnbcdkaaGreatDoor Go.Proofs
section
variable {P : Program} {T : Tab} {F : FuncId → Bool}
theorem strCells_bvs (l : List UInt8) : Lib.strCells ⟨l.toArray⟩ = bvs l := rfl
/-- '[]byte(s)'. -/
theorem str_bytes_ (hT : TabOk P T F) {o : Oper} {x : Operand} {src t e : TypeId} {tsi ti te : TI} {fr : Fr} {w : World} {K : Fr → World → Prop} (ho : o.op = .convert src t x) (hs : T src = some tsi) (ht : T t = some ti) (htd : ti.desc = .slice e) (he : T e = some te) (hed : te.desc = .int .u8)
    {l : List UInt8} (hx : ev fr x = .string ⟨l.toArray⟩) (hl : l.length ≤ 9223372036854775807)
    (k : ∀ c w', l.length ≤ c → c ≤ 9223372036854775807 → Row w' (some ⟨w.heap.size, 0, none⟩) (bvs l) → New w w' → w'.heap.size = w.heap.size + 1 → K (putF fr o.dst (.slice (some ⟨w.heap.size, 0, none⟩) l.length c)) w') : raw P o fr w K := by
  have hus := hT.desc src tsi hs
  have hu := hT.desc t ti ht
  have hue := hT.desc e te he
  rw [htd] at hu
  rw [hed] at hue
  have hrun := Lib.run_convert_string_bytes (P := P) w src t e ⟨l.toArray⟩ hus hu hue
  have hsz : (ByteArray.mk l.toArray).size = l.length := by simp [ByteArray.size]
  rw [hsz] at hrun
  have hnew : New w (Lib.bytesWorld w e ⟨l.toArray⟩) := ⟨rfl, rfl, rfl, by rw [Lib.bytesWorld_size]; omega, fun b hb _ => Lib.bytesWorld_at_old w e ⟨l.toArray⟩ b hb⟩
  have hrow : Row (Lib.bytesWorld w e ⟨l.toArray⟩) (some ⟨w.heap.size, 0, none⟩) (bvs l) := by
    intro j u hu
    refine ⟨_, rfl, ?_⟩
    have hj : j < l.length := by
      have := (List.getElem?_eq_some_iff.1 hu).1
      rwa [bvs_length] at this
    rw [Addr.add_lit, Nat.zero_add, Lib.bytesWorld_cell w e ⟨l.toArray⟩ j (by rw [hsz]; exact hj)]
    rw [bvs_get l j hj] at hu
    rw [← hu]
    simp [List.getD, hj, bv]
  refine raw_value ?_ (k (grownCap w l.length 0 e) (Lib.bytesWorld w e ⟨l.toArray⟩) (grownCap_ge w l.length 0 e) (by have := grownCap_le_maxLen w l.length 0 e (by unfold maxLen; omega); unfold maxLen at this; omega) hrow hnew (Lib.bytesWorld_size w e _))
  simp [execOp, ho, hx, hrun]
/-- 'append(b, s...)'. -/
theorem append_str_ (hT : TabOk P T F) {o : Oper} {s x : Operand} {t u e : TypeId} {ti ui : TI} {i : TypeInfo} {fr : Fr} {w : World} {K : Fr → World → Prop} (ho : o.op = .call { callee := .builtin .append, args := #[s, x], argTypes := #[t, u] })
    (ht : T t = some ti) (htd : ti.desc = .slice e) (hu : T u = some ui) (hud : ui.desc = .string) (hi : P.info? e = some i) (hz : i.zero = some (.int .u8 0)) (hs : i.size = 1) (hb : i.bytes = 1) {base n : Nat} {v : Value} {xs : List Value} (hown : w.ownsRow base e 1 v n xs) (hv : ev fr s = v) {l : List UInt8} (hx : ev fr x = .string ⟨l.toArray⟩)
    (hbytes : n + l.length ≤ 140737488355328) (hbase : base ≤ w.heap.size)
    (k : ∀ A' c' w', w'.ownsRow base e 1 (.slice A' (n + l.length) c') (n + l.length) (xs ++ bvs l) → Mod (fun k => some k = v.ownBlock) w w' → K (putF fr o.dst (.slice A' (n + l.length) c')) w') : raw P o fr w K := by
  have hut := hT.desc t ti ht
  have huu := hT.desc u ui hu
  rw [htd] at hut
  rw [hud] at huu
  have hsz : (ByteArray.mk l.toArray).size = l.length := by simp [ByteArray.size]
  obtain ⟨v', w', hrun, ho', hg, _⟩ := Lib.run_append_own_string (P := P) w base t u o.type e i hut huu hi hz hs hb v n xs hown ⟨l.toArray⟩ (by rw [hsz]; unfold maxLen; omega) (by rw [hsz]; exact hbytes) hbase
  rw [hsz, strCells_bvs] at ho'
  obtain ⟨A', c', rfl, _⟩ := own_slice ho'
  refine raw_value ?_ (k A' c' w' ho' (Mod.grown hg))
  simp only [execOp, ho, resolve, Sem.run_bind, Sem.run_pure, Result.andThen_ok, invoke, builtin, List.map_toArray, List.map_cons, List.map_nil, hv, hx]
  rw [hrun]
  rfl
end
end Go.Proofs.YtdcaafldnbcdkaaGreatDoor.Eng

/-! ### PReadW -/
namespace Go.Proofs.YtdcaafldnbcdkaaGreatDoor.Pool
open Go Go.Proofs.YtdcaafldnbcdkaaGreatDoor Go.Proofs.YtdcaafldnbcdkaaGreatDoor.Eng Go.Proofs Go.Proofs.YtdcaafldnbcdkaaGreatDoor.Word
set_option maxRecDepth 10000

/-- A reader of entries in memory. -/
structure Pr (w : World) (h g : Nat) (A : Option Addr) (c : Nat) (bs : List UInt8) (s : Nat × Int) : Prop where
  blk : w.heap[h]? = some (.cells #[.pointer (some ⟨g, 0, none⟩), .int .i64 s.2] 82 (0, 0))
  rd : Rd w g A c bs s.1
  ne : h ≠ g
  off : ∀ a, A = some a → bs ≠ [] → a.block ≠ h
theorem Pr.modN {S : Nat → Prop} {w w' : World} {h g : Nat} {A : Option Addr} {c : Nat} {bs : List UInt8} {s : Nat × Int} (p : Pr w h g A c bs s) (k : Mod S w w') (hh : ¬ S h) (hg : ¬ S g) (ha : ∀ a, A = some a → bs ≠ [] → ¬ S a.block) : Pr w' h g A c bs s :=
  ⟨k.blk p.blk hh, rd_modN p.rd k hg ha, p.ne, p.off⟩
theorem Pr.new {w w' : World} {h g : Nat} {A : Option Addr} {c : Nat} {bs : List UInt8} {s : Nat × Int} (p : Pr w h g A c bs s) (k : New w w') : Pr w' h g A c bs s := p.modN k (fun e => e) (fun e => e) (fun _ _ _ e => e)
theorem Pr.lt {w : World} {h g : Nat} {A : Option Addr} {c : Nat} {bs : List UInt8} {s : Nat × Int} (p : Pr w h g A c bs s) : h < w.heap.size ∧ g < w.heap.size := ⟨(Array.getElem?_eq_some_iff.1 p.blk).1, p.rd.lt⟩
theorem number_ok (h g : Nat) (A : Option Addr) (c : Nat) (bs : List UInt8) (s : Nat × Int) (k : Nat) (sign : Bool) (w : World) (p : Pr w h g A c bs s) :
    Calls Tryz.prog 36 #[.pointer (some ⟨h, 0, none⟩), .int .i64 (k : Int), .bool sign] w fun e w' => e = .returned (.int .i64 (numR bs sign k s).1) ∧ Pr w' h g A c bs (numR bs sign k s).2 ∧ Mod (RS h g) w w' := by
  refine enter ok Tryz.func36 rfl rfl rfl ?_
  refine Exists.intro s.2 (And.intro (cellB p.blk rfl) ?_)
  unfold numR
  refine if_n (fun hne => ?_) (fun h0 => ?_)
  · rw [if_neg (show ¬ s.2 = 0 from hne)]
    exact ⟨rfl, p, (New.refl w).mod⟩
  rw [if_pos (show s.2 = 0 from h0)]
  refine Exists.intro (some ⟨g, 0, none⟩) (And.intro (cellB p.blk rfl) ?_)
  cases sign with
  | true =>
    refine Exists.intro (some ⟨g, 0, none⟩) (And.intro (cellB p.blk rfl) ?_)
    refine call_ (S_ok g A c bs s.1 k w p.rd) ?_
    rintro e w4 ⟨rfl, rd4, m4⟩
    refine ⟨_, rfl, ?_⟩
    have hb4 := m4.blk p.blk p.ne
    refine And.intro ⟨_, cellB hb4 rfl⟩ (And.intro (fzB hb4 _) (force_ ?_))
    refine stK hb4 (show (1 : Nat) < 2 by decide) ?_
    intro w5 hb5 m5 s5
    exact ⟨rfl, ⟨hb5, rd_modN rd4 m5 (fun e => p.ne e.symm) (fun a ha hb e => p.off a ha hb e), p.ne, p.off⟩, both (m4.mono fun _ _ e => .inl e) (m5.mono fun _ _ e => .inr e)⟩
  | false =>
    refine call_ (U_ok g A c bs s.1 k w p.rd) ?_
    rintro e w4 ⟨rfl, rd4, m4⟩
    refine ⟨_, rfl, ?_⟩
    have hb4 := m4.blk p.blk p.ne
    refine And.intro ⟨_, cellB hb4 rfl⟩ (And.intro (fzB hb4 _) (force_ ?_))
    refine stK hb4 (show (1 : Nat) < 2 by decide) ?_
    intro w5 hb5 m5 s5
    exact ⟨rfl, ⟨hb5, rd_modN rd4 m5 (fun e => p.ne e.symm) (fun a ha hb e => p.off a ha hb e), p.ne, p.off⟩, both (m4.mono fun _ _ e => .inl e) (m5.mono fun _ _ e => .inr e)⟩

theorem entry_ok (h g : Nat) (A : Option Addr) (c : Nat) (bs : List UInt8) (s : Nat × Int) (w : World) (p : Pr w h g A c bs s) (hm : bs.length ≤ 140737488355328) :
    Calls Tryz.prog 37 #[.pointer (some ⟨h, 0, none⟩)] w fun e w' => e = .returned (entV (entR bs s).1) ∧ Pr w' h g A c bs (entR bs s).2 ∧ Mod (RS h g) w w' := by
  refine enter ok Tryz.func37 rfl rfl rfl ?_
  have n0 := New.alloc w (.cells entZ 85)
  have hb0 := heap_alloc_new w (.cells entZ 85)
  have hlow := rd_low p.rd
  obtain ⟨hh, hg⟩ := p.lt
  have sz : (w.alloc (.cells entZ 85)).heap.size = w.heap.size + 1 := by simp
  refine call_ (number_ok h g A c bs s 1 false (w.alloc (.cells entZ 85)) (p.new n0)) ?_
  rintro e w1 ⟨rfl, p1, m1⟩
  refine ⟨_, rfl, ?_⟩
  have hb1 := m1.blk hb0 (by rintro (e | e) <;> omega)
  have k1 : Mod (RS h g) w w1 := both n0.mod m1
  have s1 := m1.size
  refine And.intro rfl ?_
  refine storeNew (vs := entC ⟨(numR bs false 1 s).1, [], 0, 0, 0⟩) (arr := entZ) rfl (entC_one _) ?_
  intro w2 hb2 n2 s2
  have p2 := p1.new n2
  have hr2 := n2.blk hb1
  have k2 : Mod (RS h g) w w2 := both k1 n2.mod
  generalize hx : w1.heap.size = x at hb2 s2
  unfold entR
  generalize hst : (numR bs false 1 s).2 = st at p2
  generalize htg : (numR bs false 1 s).1 = t at hb2
  clear p1
  -- the entry's end: it is laid into the result and read
  have done : ∀ (y : Ent) (s' : Nat × Int) w', Pr w' h g A c bs s' → Mod (RS h g) w w' → w'.heap[w.heap.size]? = some (.cells entZ 85 (0, 0)) → ∀ w'', w''.heap[w.heap.size]? = some (.cells (entC y).toArray 85 (0, 0)) → Mod (fun b => b = w.heap.size) w' w'' → Pr w'' h g A c bs s' ∧ Mod (RS h g) w w'' := fun y s' w' q k hb w'' hb'' m =>
    ⟨q.modN m (by omega) (by omega) (fun a ha hn e => by have := hlow a ha hn; omega), Mod.trans k m fun b hb e => by omega⟩
  refine Exists.intro st.2 (And.intro (cellB p2.blk rfl) ?_)
  refine if_n (fun hne => ?_) (fun h0 => ?_)
  · rw [if_neg (show ¬ st.2 = 0 from hne)]
    refine loadN_row (vs := entC ⟨t, [], 0, 0, 0⟩) (rowB hb2) rfl ?_
    refine And.intro rfl ?_
    refine storeN_all (vs := entC ⟨t, [], 0, 0, 0⟩) hr2 rfl (entC_one _) ?_
    intro w90 hb90 m90 s90
    refine loadN_row (vs := entC ⟨t, [], 0, 0, 0⟩) (rowB hb90) rfl ?_
    obtain ⟨q90, k90⟩ := done ⟨t, [], 0, 0, 0⟩ st w2 p2 k2 hr2 w90 hb90 m90
    exact ⟨rfl, q90, k90⟩
  rw [if_pos (show st.2 = 0 from h0)]
  refine skip_ (thenF_ ?_)
  have hxn : ¬ RS h g x := by rintro (e | e) <;> omega
  have hrn : ¬ RS h g w.heap.size := by rintro (e | e) <;> omega
  have hrx : ¬ w.heap.size = x := by omega
  have hhx : ¬ h = x := by omega
  have hgx : ¬ g = x := by omega
  have hax : ∀ a, A = some a → bs ≠ [] → ¬ a.block = x := fun a ha hn e => by have := hlow a ha hn; omega
  refine seq_cut (σ := Ent × Nat × Int) (fun _ => [(0, .pointer (some ⟨h, 0, none⟩)), (2, .pointer (some ⟨w.heap.size, 0, none⟩)), (3, .pointer (some ⟨x, 0, none⟩))])
    (fun y w' => y = bodyR bs t st ∧ Pr w' h g A c bs y.2 ∧ Mod (RS h g) w w' ∧ w'.heap[w.heap.size]? = some (.cells entZ 85 (0, 0)) ∧ w'.heap[x]? = some (.cells (entC y.1).toArray 85 (0, 0))) ?_ ?_
  · rintro y w3 fr3 ⟨rfl, p3, k3, hr3, hb3⟩
    refine loadN_row (vs := entC (bodyR bs t st).1) (rowB hb3) rfl ?_
    refine And.intro rfl ?_
    refine storeN_all (vs := entC (bodyR bs t st).1) hr3 rfl (entC_one _) ?_
    intro w90 hb90 m90 s90
    refine loadN_row (vs := entC (bodyR bs t st).1) (rowB hb90) rfl ?_
    obtain ⟨q90, k90⟩ := done (bodyR bs t st).1 (bodyR bs t st).2 w3 p3 k3 hr3 w90 hb90 m90
    exact ⟨rfl, q90, k90⟩
  intro K hK
  unfold bodyR at hK
  refine Exists.intro t (And.intro (cellB hb2 rfl) ?_)
  refine if_p (fun h1 => ?_) (fun h1 => ?_)
  · replace h1 : t = 1 := h1
    rw [if_pos h1] at hK
    unfold textR at hK
    refine call_ (number_ok h g A c bs st 2 false w2 p2) ?_
    rintro e w5 ⟨rfl, p5, m5⟩
    refine ⟨_, rfl, ?_⟩
    have hb5 := m5.blk hb2 hxn
    have hr5 := m5.blk hr2 hrn
    have k5 := both k2 m5
    generalize numR bs false 2 st = n5 at hK p5
    refine Exists.intro n5.2.2 (And.intro (cellB p5.blk rfl) ?_)
    refine if_p (fun hz => ?_) (fun hz => ?_)
    · rw [if_pos (show n5.2.2 = 0 from hz)] at hK
      refine Exists.intro (some ⟨g, 0, none⟩) (And.intro (cellB p5.blk rfl) ?_)
      refine call_ (RBytes_ok g A c bs n5.2.1 n5.1 w5 p5.rd hm) ?_
      rintro e w6 ⟨v6, rfl, own6, rd6, m6⟩
      obtain ⟨A6, c6, rfl, _, _, row6, _⟩ := own_slice own6
      refine ⟨_, rfl, ?_⟩
      have hb6 := m6.blk hb5 (fun e => hgx e.symm)
      have hr6 := m6.blk hr5 (by omega)
      have hp6 := m6.blk p5.blk p5.ne
      have k6 := both k5 (m6.mono fun _ _ e => .inl e)
      refine Exists.intro (getB bs n5.2.1 n5.1).1 (And.intro rfl (And.intro row6 ?_))
      refine And.intro ⟨_, cellB hb6 rfl⟩ (And.intro (fzB hb6 _) (force_ ?_))
      refine stK hb6 (show (1 : Nat) < 5 by decide) ?_
      intro w7 hb7 m7 s7
      have hp7 := m7.blk hp6 hhx
      have rd7 := rd_modN rd6 m7 hgx hax
      have hr7 := m7.blk hr6 hrx
      have k7 : Mod (RS h g) w w7 := Mod.trans k6 m7 fun b hb e => by omega
      refine And.intro ⟨_, cellB hp7 rfl⟩ (And.intro (fzB hp7 _) (force_ ?_))
      refine stK hp7 (show (1 : Nat) < 2 by decide) ?_
      intro w8 hp8 m8 s8
      have rd8 := rd_modN rd7 m8 (fun e => p5.ne e.symm) (fun a ha hn e => p5.off a ha hn e)
      have hr8 := m8.blk hr7 (by omega)
      have hb8 := m8.blk hb7 (by omega)
      have k8 := both k7 (m8.mono fun _ _ e => .inr e)
      refine hK (⟨1, (getB bs n5.2.1 n5.1).1, 0, 0, 0⟩, (getB bs n5.2.1 n5.1).2.2, (getB bs n5.2.1 n5.1).2.1) _ _ ⟨rfl, rfl, rfl, trivial⟩ ⟨by rw [h1], ⟨hp8, rd8, p5.ne, p5.off⟩, k8, hr8, ?_⟩
      subst h1
      exact hb8
    · rw [if_neg (show ¬ n5.2.2 = 0 from hz)] at hK
      refine hK (⟨t, [], 0, 0, 0⟩, n5.2) _ _ ⟨rfl, rfl, rfl, trivial⟩ ⟨rfl, p5, k5, hr5, hb5⟩
  replace h1 : ¬ t = 1 := h1
  rw [if_neg h1] at hK
  refine if_p (fun h3 => ?_) (fun h3 => ?_)
  · replace h3 : t = 3 := h3
    rw [if_pos h3] at hK
    refine call_ (number_ok h g A c bs st 4 true w2 p2) ?_
    rintro e w5 ⟨rfl, p5, m5⟩
    refine ⟨_, rfl, ?_⟩
    have hb5 := m5.blk hb2 hxn
    have hr5 := m5.blk hr2 hrn
    have k5 := both k2 m5
    refine And.intro ⟨_, cellB hb5 rfl⟩ (And.intro (fzB hb5 _) (force_ ?_))
    refine stK hb5 (show (2 : Nat) < 5 by decide) ?_
    intro w7 hb7 m7 s7
    have p7 := p5.modN m7 hhx hgx hax
    have hr7 := m7.blk hr5 hrx
    have k7 : Mod (RS h g) w w7 := Mod.trans k5 m7 fun b hb e => by omega
    refine hK (⟨t, [], (numR bs true 4 st).1, 0, 0⟩, (numR bs true 4 st).2) _ _ ⟨rfl, rfl, rfl, trivial⟩ ⟨rfl, p7, k7, hr7, hb7⟩
  replace h3 : ¬ t = 3 := h3
  rw [if_neg h3] at hK
  refine if_p (fun h5 => ?_) (fun h5 => ?_)
  · replace h5 : t = 5 := h5
    rw [if_pos h5] at hK
    refine call_ (number_ok h g A c bs st 8 true w2 p2) ?_
    rintro e w5 ⟨rfl, p5, m5⟩
    refine ⟨_, rfl, ?_⟩
    have hb5 := m5.blk hb2 hxn
    have hr5 := m5.blk hr2 hrn
    have k5 := both k2 m5
    refine And.intro ⟨_, cellB hb5 rfl⟩ (And.intro (fzB hb5 _) (force_ ?_))
    refine stK hb5 (show (2 : Nat) < 5 by decide) ?_
    intro w7 hb7 m7 s7
    have p7 := p5.modN m7 hhx hgx hax
    have hr7 := m7.blk hr5 hrx
    have k7 : Mod (RS h g) w w7 := Mod.trans k5 m7 fun b hb e => by omega
    refine hK (⟨t, [], (numR bs true 8 st).1, 0, 0⟩, (numR bs true 8 st).2) _ _ ⟨rfl, rfl, rfl, trivial⟩ ⟨rfl, p7, k7, hr7, hb7⟩
  replace h5 : ¬ t = 5 := h5
  rw [if_neg h5] at hK
  --CUT
  refine seq_cut (σ := Unit) (fun _ => [(0, .pointer (some ⟨h, 0, none⟩)), (2, .pointer (some ⟨w.heap.size, 0, none⟩)), (3, .pointer (some ⟨x, 0, none⟩)), (17, .int .i64 t), (56, .bool (decide (t = 9 ∨ t = 10 ∨ t = 12)))]) (fun _ w' => w' = w2) ?_ ?_
  rotate_left
  · intro K2 hK2
    refine if_p (fun h9 => ?_) (fun h9 => ?_)
    · exact hK2 () _ _ ⟨rfl, rfl, rfl, rfl, (show Value.bool (decide (t = 9)) = _ by rw [decide_eq_true (show t = 9 from h9), decide_eq_true (show t = 9 ∨ t = 10 ∨ t = 12 from .inl h9)]), trivial⟩ rfl
    replace h9 : ¬ t = 9 := h9
    refine if_p (fun h10 => ?_) (fun h10 => ?_)
    · exact hK2 () _ _ ⟨rfl, rfl, rfl, rfl, (show Value.bool (decide (t = 10)) = _ by rw [decide_eq_true (show t = 10 from h10), decide_eq_true (show t = 9 ∨ t = 10 ∨ t = 12 from .inr (.inl h10))]), trivial⟩ rfl
    replace h10 : ¬ t = 10 := h10
    refine hK2 () _ _ ⟨rfl, rfl, rfl, rfl, (show Value.bool (decide (t = 12)) = .bool (decide (t = 9 ∨ t = 10 ∨ t = 12)) from ?_), trivial⟩ rfl
    congr 1
    by_cases h12 : t = 12
    · rw [decide_eq_true h12, decide_eq_true (show t = 9 ∨ t = 10 ∨ t = 12 from .inr (.inr h12))]
    · rw [decide_eq_false h12, decide_eq_false (show ¬ (t = 9 ∨ t = 10 ∨ t = 12) by omega)]
  rintro _ w2' fr2 rfl
  refine if_p (fun h9 => ?_) (fun h9 => ?_)
  · replace h9 : t = 9 ∨ t = 10 ∨ t = 12 := h9
    rw [if_pos h9] at hK
    refine call_ (number_ok h g A c bs st 2 false w2' p2) ?_
    rintro e w5 ⟨rfl, p5, m5⟩
    refine ⟨_, rfl, ?_⟩
    have hb5 := m5.blk hb2 hxn
    have hr5 := m5.blk hr2 hrn
    have k5 := both k2 m5
    refine And.intro ⟨_, cellB hb5 rfl⟩ (And.intro (fzB hb5 _) (force_ ?_))
    refine stK hb5 (show (3 : Nat) < 5 by decide) ?_
    intro w7 hb7 m7 s7
    have p7 := p5.modN m7 hhx hgx hax
    have hr7 := m7.blk hr5 hrx
    have k7 : Mod (RS h g) w w7 := Mod.trans k5 m7 fun b hb e => by omega
    refine call_ (number_ok h g A c bs _ 2 false w7 p7) ?_
    rintro e w8 ⟨rfl, p8, m8⟩
    refine ⟨_, rfl, ?_⟩
    have hb8 := m8.blk hb7 hxn
    have hr8 := m8.blk hr7 hrn
    have k8 := both k7 m8
    refine And.intro ⟨_, cellB hb8 rfl⟩ (And.intro (fzB hb8 _) (force_ ?_))
    refine stK hb8 (show (4 : Nat) < 5 by decide) ?_
    intro w9 hb9 m9 s9
    have p9 := p8.modN m9 hhx hgx hax
    have hr9 := m9.blk hr8 hrx
    have k9 : Mod (RS h g) w w9 := Mod.trans k8 m9 fun b hb e => by omega
    refine hK (⟨t, [], 0, (numR bs false 2 st).1, (numR bs false 2 (numR bs false 2 st).2).1⟩, (numR bs false 2 (numR bs false 2 st).2).2) _ _ ⟨rfl, rfl, rfl, trivial⟩ ⟨rfl, p9, k9, hr9, hb9⟩
  replace h9 : ¬ (t = 9 ∨ t = 10 ∨ t = 12) := h9
  rw [if_neg h9] at hK
  refine if_p (fun h7 => ?_) (fun h7 => ?_)
  · replace h7 : t = 7 := h7
    rw [if_pos h7] at hK
    refine call_ (number_ok h g A c bs st 2 false w2' p2) ?_
    rintro e w5 ⟨rfl, p5, m5⟩
    refine ⟨_, rfl, ?_⟩
    have hb5 := m5.blk hb2 hxn
    have hr5 := m5.blk hr2 hrn
    have k5 := both k2 m5
    refine And.intro ⟨_, cellB hb5 rfl⟩ (And.intro (fzB hb5 _) (force_ ?_))
    refine stK hb5 (show (3 : Nat) < 5 by decide) ?_
    intro w7 hb7 m7 s7
    have p7 := p5.modN m7 hhx hgx hax
    have hr7 := m7.blk hr5 hrx
    have k7 : Mod (RS h g) w w7 := Mod.trans k5 m7 fun b hb e => by omega
    refine hK (⟨t, [], 0, (numR bs false 2 st).1, 0⟩, (numR bs false 2 st).2) _ _ ⟨rfl, rfl, rfl, trivial⟩ ⟨rfl, p7, k7, hr7, hb7⟩
  · replace h7 : ¬ t = 7 := h7
    rw [if_neg h7] at hK
    have hp2 := p2.blk
    refine And.intro ⟨_, cellB hp2 rfl⟩ (And.intro (fzB hp2 _) (force_ ?_))
    refine stK hp2 (show (1 : Nat) < 2 by decide) ?_
    intro w8 hp8 m8 s8
    have rd8 := rd_modN p2.rd m8 (fun e => p2.ne e.symm) (fun a ha hn e => p2.off a ha hn e)
    refine hK (⟨t, [], 0, 0, 0⟩, st.1, 70) _ _ ⟨rfl, rfl, rfl, trivial⟩ ⟨rfl, ⟨hp8, rd8, p2.ne, p2.off⟩, both k2 (m8.mono fun _ _ e => .inr e), m8.blk hr2 (by omega), m8.blk hb2 (by omega)⟩
end Go.Proofs.YtdcaafldnbcdkaaGreatDoor.Pool

/-! ### PWrite -/
namespace Go.Proofs.YtdcaafldnbcdkaaGreatDoor.Pool
open Go Go.Proofs.YtdcaafldnbcdkaaGreatDoor Go.Proofs.YtdcaafldnbcdkaaGreatDoor.Eng Go.Proofs Go.Proofs.YtdcaafldnbcdkaaGreatDoor.Word Go.Proofs.YtdcaafldnbcdkaaGreatDoor.Fmt
set_option maxRecDepth 10000

/-- What is written of an entry. -/
inductive Parts (x : Ent) : Prop
  | utf (t : x.tag = 1) (h : Word.fits (2 : Nat) (x.text.length : Int) false = true) (e : entF.enc x = enc 1 x.tag ++ (enc 2 (x.text.length : Int) ++ x.text))
  | int (t : x.tag = 3) (h : Word.fits (4 : Nat) x.n true = true) (e : entF.enc x = enc 1 x.tag ++ enc 4 x.n)
  | long (t : x.tag = 5) (h : Word.fits (8 : Nat) x.n true = true) (e : entF.enc x = enc 1 x.tag ++ enc 8 x.n)
  | cls (t : x.tag = 7) (h : Word.fits (2 : Nat) x.a false = true) (e : entF.enc x = enc 1 x.tag ++ enc 2 x.a)
  | two (t : ¬ x.tag = 1 ∧ ¬ x.tag = 3 ∧ ¬ x.tag = 5 ∧ ¬ x.tag = 7) (h : Word.fits (2 : Nat) x.a false = true) (k : Word.fits (2 : Nat) x.b false = true) (e : entF.enc x = enc 1 x.tag ++ (enc 2 x.a ++ enc 2 x.b))
theorem ent_parts {x : Ent} (h : entF.ok x) : Word.fits (1 : Nat) x.tag false = true ∧ Parts x := by
  obtain ⟨_, ⟨h1, _⟩, h2⟩ := h
  refine ⟨h1, ?_⟩
  simp only at h2
  have he : entF.enc x = enc 1 x.tag ++ (bodyF x.tag).enc x := rfl
  unfold bodyF at h2 he
  split at h2
  · rename_i ht
    rw [if_pos ht] at he
    exact .utf ht h2.2.1 he
  rename_i n1
  rw [if_neg n1] at he
  split at h2
  · rename_i ht
    rw [if_pos ht] at he
    exact .int ht h2.2.1 he
  rename_i n3
  rw [if_neg n3] at he
  split at h2
  · rename_i ht
    rw [if_pos ht] at he
    exact .long ht h2.2.1 he
  rename_i n5
  rw [if_neg n5] at he
  split at h2
  · rename_i ht
    rw [if_pos ht] at he
    exact .two ⟨n1, n3, n5, by omega⟩ h2.2.1.1 h2.2.2.1 he
  rename_i n9
  rw [if_neg n9] at he
  split at h2
  · rename_i ht
    rw [if_pos ht] at he
    exact .cls ht h2.2.1 he
  · exact h2.elim
theorem fits2_lt {n : Nat} (h : Word.fits (2 : Nat) (n : Int) false = true) : n < 65536 := by
  simp [Word.fits] at h
  omega
theorem ent_len {x : Ent} (h : entF.ok x) : (entF.enc x).length ≤ 65600 := by
  obtain ⟨_, p⟩ := ent_parts h
  cases p with
  | utf t h e => rw [e]; have := fits2_lt h; simp only [List.length_append, enc_length]; omega
  | int t h e => rw [e]; simp only [List.length_append, enc_length]; omega
  | long t h e => rw [e]; simp only [List.length_append, enc_length]; omega
  | cls t h e => rw [e]; simp only [List.length_append, enc_length]; omega
  | two t h k e => rw [e]; simp only [List.length_append, enc_length]; omega
theorem ents_take {l : List Ent} {i : Nat} (hi : i < l.length) : ents (l.take (i + 1)) = ents (l.take i) ++ if (at_ l i).tag = 0 then [] else entF.enc (at_ l i) := by
  rw [List.take_succ_eq_append_getElem hi, ents_app, at_lt hi]
  congr 1
  unfold ents
  by_cases h : l[i].tag = 0
  · rw [List.filter_cons_of_neg (by unfold isIt; rw [decide_eq_true h]; decide), if_pos h]
    rfl
  · rw [List.filter_cons_of_pos (by unfold isIt; rw [decide_eq_false h]; rfl), if_neg h]
    simp
theorem right_ent {l : List Ent} (h : OkPool l) (hn : ∀ x ∈ l, EntOk x) {i : Nat} (hi : i < l.length) (ht : (at_ l i).tag ≠ 0) : entF.ok (at_ l i) := by
  obtain ⟨_, hf⟩ := tag_right h.1 hi ht
  refine ok_entF ?_ ⟨l, i, fits_demand hf, h.2⟩ (by rw [at_lt hi]; exact (hn _ (List.getElem_mem hi)).n)
  unfold Pool.fits at hf
  rw [Bool.and_eq_true] at hf
  exact of_decide_eq_true hf.1
theorem ents_take_len {l : List Ent} (h : OkPool l) (hn : ∀ x ∈ l, EntOk x) : ∀ i, i ≤ l.length → (ents (l.take i)).length ≤ 65600 * i
  | 0, _ => by simp [ents]
  | i + 1, hi => by
    rw [ents_take (by omega), List.length_append]
    have h1 := ents_take_len h hn i (by omega)
    have h2 : (if (at_ l i).tag = 0 then [] else entF.enc (at_ l i)).length ≤ 65600 := by
      split
      · simp
      · rename_i ht
        exact ent_len (right_ent h hn (by omega) ht)
    omega
theorem ents_all {l : List Ent} (h : Okp l) : ents (l.drop 1) = ents l := by
  have h0 := h.pos
  have h1 := h.head
  cases l with
  | nil => simp at h0
  | cons x r =>
    have : x = e0 := h1
    subst this
    show ents r = ents (e0 :: r)
    unfold ents
    rw [List.filter_cons_of_neg (by decide)]
theorem Pl.mod {S : Nat → Prop} {w w' : World} {A : Option Addr} {n : Nat} {l : List Ent} (h : Pl w A n l) (k : Mod S w w') (ha : ∀ a, A = some a → l ≠ [] → ¬ S a.block) : Pl w' A n l := by
  refine ⟨h.len, ?_, h.oks, h.top⟩
  intro i cs hi
  obtain ⟨h1, a, h2, h3⟩ := h.row i cs hi
  refine ⟨h1, a, h2, fun j u hu => ?_⟩
  have hne : l ≠ [] := by
    rintro rfl
    simp at hi
  exact k.cell (h3 j u hu) (by rw [add_block, add_block]; exact ha a h2 hne)
theorem Write_ok (base g : Nat) (v : Value) (bs : List UInt8) (A : Option Addr) (n q : Nat) (l : List Ent) (w : World) (h : Wr w base g v bs) (hl : Pl w A n l) (hd : ∀ a, A = some a → l ≠ [] → ¬ WS g v a.block) (hm : bs.length ≤ 500000000) (hb : base ≤ w.heap.size) :
    Calls Tryz.prog 50 #[.pointer (some ⟨g, 0, none⟩), .slice A n q] w fun e w' => e = .returned (.int .i64 (chk l)) ∧ ∃ v', Wk w base g v w' v' (if okB l = true then bs ++ poolF.enc l else bs) := by
  refine enter ok Tryz.func50 rfl rfl rfl ?_
  refine call_ (Check_ok A n q l w hl) ?_
  rintro e w0 ⟨rfl, n0⟩
  refine ⟨_, rfl, ?_⟩
  have hr0 := (Wk.refl h).new n0
  rcases chk_cases l with ⟨hc, ho⟩ | ⟨hc, ho⟩
  · rw [hc, ho]
    exact ⟨rfl, v, hr0⟩
  rw [hc, ho, if_pos rfl]
  have hO := (okB_iff l).1 ho
  have hlen := hl.len
  have htop := hl.top
  have h1024 := hO.2
  refine call_ (WU1 base g v bs 2 n w0 hr0.wr Pool.w2 (fits2 (by omega) (by omega)).1 (by omega) (Nat.le_trans hb n0.size)) ?_
  rintro e w1 ⟨rfl, v1, k1⟩
  refine ⟨_, rfl, ?_⟩
  have hr1 := hr0.then k1
  clear k1
  refine den_loop (σ := Nat) (fun i => [(0, .pointer (some ⟨g, 0, none⟩)), (6, .int .i64 0), (19, .slice A n q), (20, .int .i64 n), (21, .int .i64 i)])
    (fun m i wl => i ≤ n ∧ m = n - i ∧ ∃ v', Wk w base g v wl v' (bs ++ (enc 2 (n : Int) ++ ents (l.take i)))) n 0 ⟨rfl, rfl, rfl, rfl, rfl, trivial⟩ ⟨Nat.zero_le _, rfl, v1, by simpa [ents] using hr1⟩ ?_
  rintro m i wl fr0 ⟨hi, rfl, vl, kl⟩
  refine if_p (fun hlt => ?_) (fun hge => ?_)
  · replace hlt : (i : Int) < n := hlt
    have hil : i < l.length := by omega
    have hplx := hl.mod kl.mod hd
    obtain ⟨a, rfl, hxo, hxc⟩ := hplx.at_ (i := i) (by omega)
    have hbl := ents_take_len hO hl.oks i (by omega)
    have hbb : (bs ++ (enc 2 (n : Int) ++ ents (l.take i))).length ≤ 600000000 := by
      simp only [List.length_append, enc_length]
      omega
    have hbase : ∀ {w' v' bs'}, Wk w base g v w' v' bs' → base ≤ w'.heap.size := fun k => Nat.le_trans hb k.mod.size
    refine And.intro (by omega) (And.intro (by omega) ?_)
    refine loadN_row (vs := entC (at_ l i)) (fun j u hu => by rw [Int.toNat_natCast]; exact hxc j u hu) rfl ?_
    refine And.intro rfl ?_
    refine storeNew (vs := entC (at_ l i)) (arr := entZ) rfl (entC_one _) ?_
    intro w5 hb5 n5 s5
    have k5 := kl.new n5
    have goal : ∀ w' v', Wk w base g v w' v' (bs ++ (enc 2 (n : Int) ++ ents (l.take i)) ++ if (at_ l i).tag = 0 then [] else entF.enc (at_ l i)) → (i + 1 ≤ n ∧ n - (i + 1) = n - (i + 1) ∧ ∃ v', Wk w base g v w' v' (bs ++ (enc 2 (n : Int) ++ ents (l.take (i + 1))))) := fun w' v' k => ⟨by omega, rfl, v', by
      rw [ents_take hil]
      simpa using k⟩
    have inc : Value.int .i64 (IntKind.i64.wrap ((i : Int) + 1)) = .int .i64 ((i + 1 : Nat) : Int) := by
      rw [wrap_i64 (by omega) (by omega)]
      rfl
    refine Exists.intro (at_ l i).tag (And.intro (cellB hb5 rfl) ?_)
    refine if_p (fun h0 => ?_) (fun h0 => ?_)
    · replace h0 : (at_ l i).tag = 0 := h0
      refine ⟨n - (i + 1), i + 1, by omega, ⟨rfl, rfl, rfl, rfl, inc, trivial⟩, goal w5 vl ?_⟩
      rw [if_pos h0, List.append_nil]
      exact k5
    replace h0 : ¬ (at_ l i).tag = 0 := h0
    rw [if_neg h0] at goal
    have hok := right_ent hO hl.oks hil h0
    obtain ⟨hf1, hparts⟩ := ent_parts hok
    refine Exists.intro (at_ l i).tag (And.intro (cellB hb5 rfl) ?_)
    refine call_ (WU1 base g vl _ 1 (at_ l i).tag w5 k5.wr Pool.w1 hf1 (by omega) (hbase k5)) ?_
    rintro e w8 ⟨rfl, v8, j8⟩
    refine ⟨_, rfl, ?_⟩
    have k8 := k5.then j8
    have hne5 : ¬ WS g vl wl.heap.size := by
      rintro (e | e)
      · have := kl.wr.lt; omega
      · have := (kl.wr.vlt e.symm).2; omega
    have hb8 := j8.mod.blk hb5 hne5
    have hne8 : ¬ WS g v8 wl.heap.size := by
      rintro (e | e)
      · have := kl.wr.lt; omega
      · rcases j8.st _ e.symm with h' | h'
        · exact hne5 (.inr h'.symm)
        · have := n5.size; omega
    refine Exists.intro (at_ l i).tag (And.intro (cellB hb8 rfl) ?_)
    have close : ∀ w' v' ys, Wk w base g v w' v' ((bs ++ (enc 2 (n : Int) ++ ents (l.take i))) ++ enc 1 (at_ l i).tag ++ ys) → entF.enc (at_ l i) = enc 1 (at_ l i).tag ++ ys → Wk w base g v w' v' (bs ++ (enc 2 (n : Int) ++ ents (l.take i)) ++ entF.enc (at_ l i)) := fun w' v' ys k e => by
      rw [e, ← List.append_assoc]
      exact k
    have hl1 : ((bs ++ (enc 2 (n : Int) ++ ents (l.take i))) ++ enc 1 (at_ l i).tag).length ≤ 600000001 := by rw [List.length_append, enc_length]; omega
    refine if_p (fun h1 => ?_) (fun h1 => ?_)
    · replace h1 : (at_ l i).tag = 1 := h1
      cases hparts with
      | utf _ hf he =>
        have htl := fits2_lt hf
        refine Exists.intro (⟨(at_ l i).text.toArray⟩ : ByteArray) (And.intro (cellB hb8 rfl) ?_)
        have hsz : ((ByteArray.mk (at_ l i).text.toArray).size : Int) = (((at_ l i).text.length : Nat) : Int) := by rw [size_str]
        refine call_ (WU1 base g v8 _ 2 ((ByteArray.mk (at_ l i).text.toArray).size : Int) w8 k8.wr Pool.w2 (by rw [hsz]; exact hf) (by omega) (hbase k8)) ?_
        rintro e w11 ⟨rfl, v11, j11⟩
        rw [hsz] at j11
        refine ⟨_, rfl, ?_⟩
        have k11 := k8.then j11
        have hb11 := j11.mod.blk hb8 hne8
        refine Exists.intro (⟨(at_ l i).text.toArray⟩ : ByteArray) (And.intro (cellB hb11 rfl) ?_)
        refine str_bytes_ ok rfl rfl rfl rfl rfl rfl (l := (at_ l i).text) rfl (by omega) ?_
        intro c13 w13 hc13 hcm13 row13 n13 s13
        have k13 := k11.new n13
        refine call_ (WB1 base g v11 _ (some ⟨w11.heap.size, 0, none⟩) (at_ l i).text.length c13 (at_ l i).text w13 k13.wr row13 rfl (by simp only [List.length_append, enc_length] at hl1 ⊢; omega) (hbase k13)) ?_
        rintro e w14 ⟨rfl, v14, j14⟩
        refine ⟨_, rfl, ?_⟩
        have k14 := k13.then j14
        refine ⟨n - (i + 1), i + 1, by omega, ⟨rfl, rfl, rfl, rfl, inc, trivial⟩, goal w14 v14 (close _ _ _ ?_ he)⟩
        simpa using k14
      | int t => omega
      | long t => omega
      | cls t => omega
      | two t => exact absurd h1 t.1
    replace h1 : ¬ (at_ l i).tag = 1 := h1
    refine if_p (fun h3 => ?_) (fun h3 => ?_)
    · replace h3 : (at_ l i).tag = 3 := h3
      cases hparts with
      | int _ hf he =>
        refine Exists.intro (at_ l i).n (And.intro (cellB hb8 rfl) ?_)
        refine call_ (WS1 base g v8 _ 4 (at_ l i).n w8 k8.wr Pool.w4 hf (by omega) (hbase k8)) ?_
        rintro e w11 ⟨rfl, v11, j11⟩
        refine ⟨_, rfl, ?_⟩
        exact ⟨n - (i + 1), i + 1, by omega, ⟨rfl, rfl, rfl, rfl, inc, trivial⟩, goal w11 v11 (close _ _ _ (k8.then j11) he)⟩
      | utf t => omega
      | long t => omega
      | cls t => omega
      | two t => exact absurd h3 t.2.1
    replace h3 : ¬ (at_ l i).tag = 3 := h3
    refine if_p (fun h5 => ?_) (fun h5 => ?_)
    · replace h5 : (at_ l i).tag = 5 := h5
      cases hparts with
      | long _ hf he =>
        refine Exists.intro (at_ l i).n (And.intro (cellB hb8 rfl) ?_)
        refine call_ (WS1 base g v8 _ 8 (at_ l i).n w8 k8.wr Pool.w8 hf (by omega) (hbase k8)) ?_
        rintro e w11 ⟨rfl, v11, j11⟩
        refine ⟨_, rfl, ?_⟩
        exact ⟨n - (i + 1), i + 1, by omega, ⟨rfl, rfl, rfl, rfl, inc, trivial⟩, goal w11 v11 (close _ _ _ (k8.then j11) he)⟩
      | utf t => omega
      | int t => omega
      | cls t => omega
      | two t => exact absurd h5 t.2.2.1
    replace h5 : ¬ (at_ l i).tag = 5 := h5
    refine if_p (fun h7 => ?_) (fun h7 => ?_)
    · replace h7 : (at_ l i).tag = 7 := h7
      cases hparts with
      | cls _ hf he =>
        refine Exists.intro (at_ l i).a (And.intro (cellB hb8 rfl) ?_)
        refine call_ (WU1 base g v8 _ 2 (at_ l i).a w8 k8.wr Pool.w2 hf (by omega) (hbase k8)) ?_
        rintro e w11 ⟨rfl, v11, j11⟩
        refine ⟨_, rfl, ?_⟩
        exact ⟨n - (i + 1), i + 1, by omega, ⟨rfl, rfl, rfl, rfl, inc, trivial⟩, goal w11 v11 (close _ _ _ (k8.then j11) he)⟩
      | utf t => omega
      | int t => omega
      | long t => omega
      | two t => exact absurd h7 t.2.2.2
    replace h7 : ¬ (at_ l i).tag = 7 := h7
    cases hparts with
    | two _ hf hg he =>
      refine Exists.intro (at_ l i).a (And.intro (cellB hb8 rfl) ?_)
      refine Exists.intro (at_ l i).b (And.intro (cellB hb8 rfl) ?_)
      refine call_ (WU2 base g v8 _ 2 (at_ l i).a (at_ l i).b w8 k8.wr Pool.w2 hf hg (by omega) (hbase k8)) ?_
      rintro e w11 ⟨rfl, v11, j11⟩
      refine ⟨_, rfl, ?_⟩
      exact ⟨n - (i + 1), i + 1, by omega, ⟨rfl, rfl, rfl, rfl, inc, trivial⟩, goal w11 v11 (close _ _ _ (k8.then j11) he)⟩
    | utf t => omega
    | int t => omega
    | long t => omega
    | cls t => omega
  · replace hge : ¬ (i : Int) < n := hge
    refine ⟨rfl, vl, ?_⟩
    have : i = l.length := by omega
    subst this
    rw [List.take_length, hlen] at kl
    show Wk w base g v wl vl (bs ++ (enc 2 (l.length : Int) ++ ents (l.drop 1)))
    rw [ents_all hO.1]
    exact kl
end Go.Proofs.YtdcaafldnbcdkaaGreatDoor.Pool

/-! ### KRep -/
namespace Go.Proofs.YtdcaafldnbcdkaaGreatDoor.Class
open Go Go.Proofs.YtdcaafldnbcdkaaGreatDoor Go.Proofs.YtdcaafldnbcdkaaGreatDoor.Eng Go.Proofs Go.Proofs.YtdcaafldnbcdkaaGreatDoor.Word Go.Proofs.YtdcaafldnbcdkaaGreatDoor.Fmt
open Go.Proofs.YtdcaafldnbcdkaaGreatDoor.Pool (Ent at_ poolF strV entC EntOk Pl)
set_option maxRecDepth 10000

/-! ### Members in memory -/
/-- How a value lies in memory: its cells, and rows behind them that are none of those blocks. -/
abbrev RepT (α : Type) := World → (Nat → Prop) → List Value → α → Prop
structure RepOk {α : Type} (R : RepT α) (sz : Nat) : Prop where
  mod : ∀ {w w' : World} {S : Nat → Prop} {cs : List Value} {x : α}, R w S cs x → Mod S w w' → R w' S cs x
  weak : ∀ {w : World} {S S' : Nat → Prop} {cs : List Value} {x : α}, R w S cs x → (∀ b, b < w.heap.size → S' b → S b) → R w S' cs x
  len : ∀ {w : World} {S : Nat → Prop} {cs : List Value} {x : α}, R w S cs x → cs.length = sz
  one : ∀ {w : World} {S : Nat → Prop} {cs : List Value} {x : α}, R w S cs x → ∀ u ∈ cs, u.oneCell' = true
abbrev cellsOf {α : Type} (ts : List (List Value × α)) : List Value := (ts.map (·.1)).flatten
/-- A list's row. -/
structure LRow {α : Type} (R : RepT α) (w : World) (S : Nat → Prop) (A : Option Addr) (ts : List (List Value × α)) : Prop where
  row : Row w A (cellsOf ts)
  off : ∀ a, A = some a → ts ≠ [] → a.block < w.heap.size ∧ ¬ S a.block
  mem : ∀ t ∈ ts, R w S t.1 t.2
/-- A list in memory. -/
def LRep {α : Type} (R : RepT α) (w : World) (S : Nat → Prop) (v : Value) (xs : List α) : Prop :=
  ∃ A c ts, v = .slice A xs.length c ∧ ts.map (·.2) = xs ∧ xs.length ≤ c ∧ c ≤ 9223372036854775807 ∧ xs.length ≤ 140737488355328 ∧ LRow R w S A ts
section
variable {α : Type} {R : RepT α} {sz : Nat} {w w' : World} {S S' : Nat → Prop} {v : Value} {xs : List α} {A : Option Addr} {ts : List (List Value × α)}
theorem LRow.mod (hR : RepOk R sz) (hsz : 0 < sz) (h : LRow R w S A ts) (m : Mod S w w') : LRow R w' S A ts := by
  refine ⟨?_, fun a ha hn => ⟨Nat.lt_of_lt_of_le (h.off a ha hn).1 m.size, (h.off a ha hn).2⟩, fun t ht => hR.mod (h.mem t ht) m⟩
  by_cases hn : ts = []
  · subst hn
    exact Row.nil _ _
  · exact h.row.mod m fun a ha => (h.off a ha hn).2
theorem LRow.weak (hR : RepOk R sz) (h : LRow R w S A ts) (hs : ∀ b, b < w.heap.size → S' b → S b) : LRow R w S' A ts :=
  ⟨h.row, fun a ha hn => ⟨(h.off a ha hn).1, fun e => (h.off a ha hn).2 (hs _ (h.off a ha hn).1 e)⟩, fun t ht => hR.weak (h.mem t ht) hs⟩
theorem LRep.mod (hR : RepOk R sz) (hsz : 0 < sz) (h : LRep R w S v xs) (m : Mod S w w') : LRep R w' S v xs := by
  obtain ⟨A, c, ts, h1, h2, h3, h4, h5, h6⟩ := h
  exact ⟨A, c, ts, h1, h2, h3, h4, h5, h6.mod hR hsz m⟩
theorem LRep.weak (hR : RepOk R sz) (h : LRep R w S v xs) (hs : ∀ b, b < w.heap.size → S' b → S b) : LRep R w S' v xs := by
  obtain ⟨A, c, ts, h1, h2, h3, h4, h5, h6⟩ := h
  exact ⟨A, c, ts, h1, h2, h3, h4, h5, h6.weak hR hs⟩
theorem LRep.one (h : LRep R w S v xs) : v.oneCell' = true := by
  obtain ⟨A, c, ts, h1, _⟩ := h
  rw [h1]
  rfl
theorem LRep.nil (w : World) (S : Nat → Prop) (A : Option Addr) (hA : True) : LRep R w S (.slice A 0 0) [] := ⟨A, 0, [], rfl, rfl, Nat.le_refl _, by omega, by simp, Row.nil _ _, fun _ _ h => absurd rfl h, fun _ h => (by cases h)⟩
theorem cells_len (hR : RepOk R sz) (h : ∀ t ∈ ts, R w S t.1 t.2) : (cellsOf ts).length = ts.length * sz := by
  induction ts with
  | nil => simp
  | cons t l ih =>
    have := ih fun y hy => h y (List.mem_cons_of_mem _ hy)
    simp only [cellsOf, List.map_cons, List.flatten_cons, List.length_append, List.length_cons] at this ⊢
    rw [this, hR.len (h t List.mem_cons_self), Nat.succ_mul]
    omega
/-- A member's cells. -/
theorem cells_at (hR : RepOk R sz) : ∀ {ts : List (List Value × α)}, (∀ t ∈ ts, R w S t.1 t.2) → ∀ (i : Nat) (hi : i < ts.length) (k : Nat) (u : Value), ts[i].1[k]? = some u → (cellsOf ts)[i * sz + k]? = some u
  | [], _, i, hi, _, _, _ => by simp at hi
  | t :: l, h, 0, _, k, u, hu => by
    have hk : k < t.1.length := (List.getElem?_eq_some_iff.1 hu).1
    simp only [cellsOf, List.map_cons, List.flatten_cons, Nat.zero_mul, Nat.zero_add]
    rw [List.getElem?_append_left hk]
    exact hu
  | t :: l, h, i + 1, hi, k, u, hu => by
    have hl := hR.len (h t List.mem_cons_self)
    have := cells_at hR (ts := l) (fun y hy => h y (List.mem_cons_of_mem _ hy)) i (by simpa using hi) k u (by simpa using hu)
    simp only [cellsOf, List.map_cons, List.flatten_cons]
    rw [List.getElem?_append_right (by rw [hl, Nat.succ_mul]; omega), hl, show (i + 1) * sz + k - sz = i * sz + k by rw [Nat.succ_mul]; omega]
    exact this
theorem LRow.at_ (hR : RepOk R sz) (hsz : 0 < sz) (h : LRow R w S A ts) {i : Nat} (hi : i < ts.length) : ∃ a, A = some a ∧ ∀ k u, ts[i].1[k]? = some u → w.cell? ((a.add (i * sz)).add k) = some u := by
  have key : ∀ k u, ts[i].1[k]? = some u → ∃ a, A = some a ∧ w.cell? (a.add (i * sz + k)) = some u := fun k u hu => h.row (i * sz + k) u (cells_at hR h.mem i hi k u hu)
  have hl := hR.len (h.mem _ (List.getElem_mem hi))
  obtain ⟨a, ha, _⟩ := key 0 ts[i].1[0] (by simp [List.getElem?_eq_getElem, hl, hsz])
  refine ⟨a, ha, fun k u hu => ?_⟩
  obtain ⟨a', ha', hc⟩ := key k u hu
  rw [ha] at ha'
  cases ha'
  rw [add_add_]
  exact hc
end
theorem cellsOf_snoc {α : Type} (ts : List (List Value × α)) (t : List Value × α) : cellsOf (ts ++ [t]) = cellsOf ts ++ t.1 := by simp [cellsOf]
/-- A member more: those that are there stay. -/
theorem mem_step {α : Type} {R : RepT α} {sz : Nat} (hR : RepOk R sz) {ts : List (List Value × α)} {w wl w5 w7 : World} {o o' : Option Nat} {cs : List Value} {x : α} {h g : Nat} (hts : ∀ t ∈ ts, R wl (fun b => b < w.heap.size ∨ some b = o) t.1 t.2)
    (hx : R w5 (fun b => b < wl.heap.size) cs x) (m5 : Mod (Pool.RS h g) wl w5) (k57 : Mod (fun b => some b = o) w5 w7) (hh : h < w.heap.size) (hg : g < w.heap.size) (hz : w.heap.size ≤ wl.heap.size) (ho : ∀ b, some b = o → w.heap.size ≤ b ∧ b < wl.heap.size)
    (st : ∀ b, some b = o' → some b = o ∨ w5.heap.size ≤ b) : ∀ t ∈ ts ++ [(cs, x)], R w7 (fun b => b < w.heap.size ∨ some b = o') t.1 t.2 := by
  intro t ht
  have m5z := m5.size
  rcases List.mem_append.1 ht with ht | ht
  · have h1 := hR.weak (S' := fun b => (b < w.heap.size ∨ some b = o) ∨ wl.heap.size ≤ b) (hts t ht) fun b hb e => e.resolve_right (by omega)
    have h2 := hR.mod h1 (m5.mono fun b hb e => .inl (.inl (by rcases e with e | e <;> omega)))
    have h3 := hR.mod h2 (k57.mono fun b hb e => .inl (.inr e))
    refine hR.weak h3 fun b hb e => ?_
    rcases e with e | e
    · exact .inl (.inl e)
    · rcases st b e with e | e
      · exact .inl (.inr e)
      · exact .inr (by omega)
  · rw [List.mem_singleton.1 ht]
    have h1 := hR.weak (S' := fun b => (b < w.heap.size ∨ some b = o) ∨ w5.heap.size ≤ b) hx fun b hb e => by
      rcases e with (e | e) | e
      · omega
      · exact (ho b e).2
      · omega
    have h3 := hR.mod h1 (k57.mono fun b hb e => .inl (.inr e))
    refine hR.weak h3 fun b hb e => ?_
    rcases e with e | e
    · exact .inl (.inl e)
    · rcases st b e with e | e
      · exact .inl (.inr e)
      · exact .inr e
theorem LRep.get {α : Type} {R : RepT α} {sz : Nat} {w : World} {S : Nat → Prop} {v : Value} {xs : List α} (hR : RepOk R sz) (hsz : 0 < sz) (h : LRep R w S v xs) : ∃ A c, v = .slice A xs.length c ∧ xs.length ≤ 140737488355328 ∧ ∀ (i : Nat) (hi : i < xs.length), ∃ a cs, A = some a ∧ R w S cs xs[i] ∧ ∀ k u, cs[k]? = some u → w.cell? ((a.add (i * sz)).add k) = some u := by
  obtain ⟨A, c, ts, h1, h2, h3, h4, h5, h6⟩ := h
  refine ⟨A, c, h1, h5, fun i hi => ?_⟩
  have hi' : i < ts.length := by rw [← h2] at hi; simpa using hi
  obtain ⟨a, ha, hc⟩ := h6.at_ hR hsz hi'
  have e : xs[i] = ts[i].2 := by subst h2; simp
  exact ⟨a, ts[i].1, ha, by rw [e]; exact h6.mem _ (List.getElem_mem hi'), hc⟩
abbrev zi (n : Int) : Value := .int .i64 n
def tyR : RepT Ty := fun _ _ cs x => cs = [zi x.kind, strV x.name]
theorem tyOk : RepOk tyR 2 := ⟨fun h _ => h, fun h _ => h, fun h => by rw [h]; rfl, fun h u hu => by
  rw [h] at hu
  simp only [entC, List.mem_cons, List.not_mem_nil, or_false] at hu
  rcases hu with hu | hu <;> (rw [hu]; rfl)⟩
def hndR : RepT Hnd := fun _ _ cs x => cs = [zi x.from_, zi x.to, zi x.at_, zi x.cls]
theorem hndOk : RepOk hndR 4 := ⟨fun h _ => h, fun h _ => h, fun h => by rw [h]; rfl, fun h u hu => by
  rw [h] at hu
  simp only [entC, List.mem_cons, List.not_mem_nil, or_false] at hu
  rcases hu with hu | hu | hu | hu <;> (rw [hu]; rfl)⟩
def entR : RepT Ent := fun _ _ cs x => cs = entC x
theorem entOk : RepOk entR 5 := ⟨fun h _ => h, fun h _ => h, fun h => by rw [h]; rfl, fun h u hu => by
  rw [h] at hu
  simp only [entC, List.mem_cons, List.not_mem_nil, or_false] at hu
  rcases hu with hu | hu | hu | hu | hu <;> (rw [hu]; rfl)⟩
def fldR : RepT Fld := fun _ _ cs x => cs = [zi x.acc, strV x.name, strV x.typ]
theorem fldOk : RepOk fldR 3 := ⟨fun h _ => h, fun h _ => h, fun h => by rw [h]; rfl, fun h u hu => by
  rw [h] at hu
  simp only [entC, List.mem_cons, List.not_mem_nil, or_false] at hu
  rcases hu with hu | hu | hu <;> (rw [hu]; rfl)⟩
def u8R : RepT UInt8 := fun _ _ cs x => cs = [.int .u8 (x.toNat : Int)]
theorem u8Ok : RepOk u8R 1 := ⟨fun h _ => h, fun h _ => h, fun h => by rw [h]; rfl, fun h u hu => by
  rw [h] at hu
  simp only [entC, List.mem_cons, List.not_mem_nil, or_false] at hu
  (rw [hu]; rfl)⟩
def mpR : RepT Mp := fun w S cs x => ∃ a b, cs = [zi x.at_, a, b] ∧ LRep tyR w S a x.locals ∧ LRep tyR w S b x.stack
theorem mpOk : RepOk mpR 3 := ⟨fun ⟨a, b, h, h0, h1⟩ m => ⟨a, b, h, h0.mod tyOk (by decide) m, h1.mod tyOk (by decide) m⟩, fun ⟨a, b, h, h0, h1⟩ m => ⟨a, b, h, h0.weak tyOk m, h1.weak tyOk m⟩, fun ⟨a, b, h, h0, h1⟩ => by rw [h]; rfl, fun ⟨a, b, h, h0, h1⟩ u hu => by
  rw [h] at hu
  simp only [List.mem_cons, List.not_mem_nil, or_false] at hu
  rcases hu with hu | hu | hu <;> first
    | (rw [hu]; rfl)
    | (rw [hu]; exact h0.one)
    | (rw [hu]; exact h1.one)⟩
def codR : RepT Cod := fun w S cs x => ∃ a b c, cs = [zi x.stack, zi x.locals, a, b, c] ∧ LRep u8R w S a x.bytes ∧ LRep hndR w S b x.hands ∧ LRep mpR w S c x.maps
theorem codOk : RepOk codR 5 := ⟨fun ⟨a, b, c, h, h0, h1, h2⟩ m => ⟨a, b, c, h, h0.mod u8Ok (by decide) m, h1.mod hndOk (by decide) m, h2.mod mpOk (by decide) m⟩, fun ⟨a, b, c, h, h0, h1, h2⟩ m => ⟨a, b, c, h, h0.weak u8Ok m, h1.weak hndOk m, h2.weak mpOk m⟩, fun ⟨a, b, c, h, h0, h1, h2⟩ => by rw [h]; rfl, fun ⟨a, b, c, h, h0, h1, h2⟩ u hu => by
  rw [h] at hu
  simp only [List.mem_cons, List.not_mem_nil, or_false] at hu
  rcases hu with hu | hu | hu | hu | hu <;> first
    | (rw [hu]; rfl)
    | (rw [hu]; exact h0.one)
    | (rw [hu]; exact h1.one)
    | (rw [hu]; exact h2.one)⟩
def mthR : RepT Mth := fun w S cs x => ∃ a b c, cs = [zi x.acc, strV x.name, strV x.typ, zi x.code.stack, zi x.code.locals, a, b, c] ∧ LRep u8R w S a x.code.bytes ∧ LRep hndR w S b x.code.hands ∧ LRep mpR w S c x.code.maps
theorem mthOk : RepOk mthR 8 := ⟨fun ⟨a, b, c, h, h0, h1, h2⟩ m => ⟨a, b, c, h, h0.mod u8Ok (by decide) m, h1.mod hndOk (by decide) m, h2.mod mpOk (by decide) m⟩, fun ⟨a, b, c, h, h0, h1, h2⟩ m => ⟨a, b, c, h, h0.weak u8Ok m, h1.weak hndOk m, h2.weak mpOk m⟩, fun ⟨a, b, c, h, h0, h1, h2⟩ => by rw [h]; rfl, fun ⟨a, b, c, h, h0, h1, h2⟩ u hu => by
  rw [h] at hu
  simp only [List.mem_cons, List.not_mem_nil, or_false] at hu
  rcases hu with hu | hu | hu | hu | hu | hu | hu | hu <;> first
    | (rw [hu]; rfl)
    | (rw [hu]; exact h0.one)
    | (rw [hu]; exact h1.one)
    | (rw [hu]; exact h2.one)⟩
def clsR : RepT Cls := fun w S cs x => ∃ a b c, cs = [a, strV x.name, strV x.super, b, c] ∧ LRep entR w S a x.pool ∧ LRep fldR w S b x.fields ∧ LRep mthR w S c x.methods
theorem clsOk : RepOk clsR 5 := ⟨fun ⟨a, b, c, h, h0, h1, h2⟩ m => ⟨a, b, c, h, h0.mod entOk (by decide) m, h1.mod fldOk (by decide) m, h2.mod mthOk (by decide) m⟩, fun ⟨a, b, c, h, h0, h1, h2⟩ m => ⟨a, b, c, h, h0.weak entOk m, h1.weak fldOk m, h2.weak mthOk m⟩, fun ⟨a, b, c, h, h0, h1, h2⟩ => by rw [h]; rfl, fun ⟨a, b, c, h, h0, h1, h2⟩ u hu => by
  rw [h] at hu
  simp only [List.mem_cons, List.not_mem_nil, or_false] at hu
  rcases hu with hu | hu | hu | hu | hu <;> first
    | (rw [hu]; rfl)
    | (rw [hu]; exact h0.one)
    | (rw [hu]; exact h1.one)
    | (rw [hu]; exact h2.one)⟩
/-- Bytes in a row. -/
theorem bytes_cells : ∀ {ts : List (List Value × UInt8)} {w : World} {S : Nat → Prop}, (∀ t ∈ ts, u8R w S t.1 t.2) → cellsOf ts = bvs (ts.map (·.2))
  | [], _, _, _ => rfl
  | t :: l, w, S, h => by
    have h1 : t.1 = [.int .u8 (t.2.toNat : Int)] := h t List.mem_cons_self
    have h2 := bytes_cells (ts := l) fun y hy => h y (List.mem_cons_of_mem _ hy)
    show t.1 ++ cellsOf l = _
    rw [h1, h2]
    rfl
theorem bytes_row {w : World} {S : Nat → Prop} {v : Value} {xs : List UInt8} (h : LRep u8R w S v xs) : ∃ A c, v = .slice A xs.length c ∧ Row w A (bvs xs) ∧ xs.length ≤ c ∧ c ≤ 9223372036854775807 ∧ ∀ a, A = some a → xs ≠ [] → a.block < w.heap.size ∧ ¬ S a.block := by
  obtain ⟨A, c, ts, h1, h2, h3, h4, h5, h6⟩ := h
  refine ⟨A, c, h1, ?_, h3, h4, fun a ha hn => h6.off a ha fun e => hn ?_⟩
  · have := h6.row
    rw [bytes_cells h6.mem, h2] at this
    exact this
  · rw [← h2, e]
    rfl
/-- A pool in a row. -/
theorem ents_cells : ∀ {ts : List (List Value × Ent)} {w : World} {S : Nat → Prop}, (∀ t ∈ ts, entR w S t.1 t.2) → ts.map (·.1) = (ts.map (·.2)).map entC
  | [], _, _, _ => rfl
  | t :: l, w, S, h => by
    have h1 : t.1 = entC t.2 := h t List.mem_cons_self
    have h2 := ents_cells (ts := l) fun y hy => h y (List.mem_cons_of_mem _ hy)
    rw [List.map_cons, h1, h2]
    rfl
theorem pool_row {w : World} {S : Nat → Prop} {v : Value} {l : List Ent} (h : LRep entR w S v l) (ho : ∀ x ∈ l, EntOk x) : ∃ A c, v = .slice A l.length c ∧ Pl w A l.length l ∧ l.length ≤ c ∧ c ≤ 9223372036854775807 ∧ ∀ a, A = some a → l ≠ [] → a.block < w.heap.size ∧ ¬ S a.block := by
  obtain ⟨A, c, ts, h1, h2, h3, h4, h5, h6⟩ := h
  refine ⟨A, c, h1, ⟨rfl, ?_, ho, by omega⟩, h3, h4, fun a ha hn => h6.off a ha fun e => hn ?_⟩
  · rw [← h2, ← ents_cells h6.mem]
    intro i cs hi
    rw [List.getElem?_map, Option.map_eq_some_iff] at hi
    obtain ⟨t, ht, rfl⟩ := hi
    have hl := (List.getElem?_eq_some_iff.1 ht).1
    have ht2 : ts[i] = t := (List.getElem?_eq_some_iff.1 ht).2
    have hm := h6.mem t (by rw [← ht2]; exact List.getElem_mem hl)
    obtain ⟨a, ha, hc⟩ := h6.at_ entOk (by decide) hl
    rw [ht2] at hc
    exact ⟨entOk.len hm, a, ha, hc⟩
  · rw [← h2, e]
    rfl
end Go.Proofs.YtdcaafldnbcdkaaGreatDoor.Class

/-! ### KWrite1 -/
namespace Go.Proofs.YtdcaafldnbcdkaaGreatDoor.Class
open Go Go.Proofs.YtdcaafldnbcdkaaGreatDoor Go.Proofs.YtdcaafldnbcdkaaGreatDoor.Eng Go.Proofs Go.Proofs.YtdcaafldnbcdkaaGreatDoor.Word Go.Proofs.YtdcaafldnbcdkaaGreatDoor.Fmt
open Go.Proofs.YtdcaafldnbcdkaaGreatDoor.Pool (Ent at_ poolF strV entC entV EntOk Pl OkPool both own_low tagAt)
set_option maxRecDepth 10000

/-- A pool in memory, and the table of kinds. -/
structure Po where
  A : Option Addr
  c : Nat
  l : List Ent
abbrev Po.v (p : Po) : Value := .slice p.A p.l.length p.c
def Kt (w : World) : Prop := ∀ k : Int, 0 ≤ k → k < 5 → w.cell? ⟨0, k.toNat, none⟩ = some (zi (kindNo k))
structure Cx (w : World) (base : Nat) (p : Po) : Prop where
  pl : Pl w p.A p.l.length p.l
  low : ∀ a, p.A = some a → p.l ≠ [] → a.block < base
  tbl : Kt w
  b0 : 0 < base
  bw : base ≤ w.heap.size
  big : p.l.length ≤ 140737488355328
theorem Cx.mod {S : Nat → Prop} {w w' : World} {base : Nat} {p : Po} (c : Cx w base p) (m : Mod S w w') (hS : ∀ b, b < w.heap.size → S b → base ≤ b) : Cx w' base p := by
  have hb := c.bw
  refine ⟨c.pl.mod m fun a ha hn e => ?_, c.low, fun k h0 h5 => m.cell (c.tbl k h0 h5) fun e => ?_, c.b0, Nat.le_trans c.bw m.size, c.big⟩
  · have := c.low a ha hn
    have := hS _ (by omega) e
    omega
  · have h1 := c.b0
    have e : S 0 := e
    have h2 := hS _ (by omega) e
    omega
theorem Cx.new {w w' : World} {base : Nat} {p : Po} (c : Cx w base p) (n : New w w') : Cx w' base p := c.mod n fun _ _ h => h.elim
/-- A writer of classes in memory. -/
structure Wi (w : World) (base : Nat) (p : Po) (h g : Nat) (v : Value) (t : WT) : Prop where
  blk : w.heap[h]? = some (.cells #[.pointer (some ⟨g, 0, none⟩), p.v, .bool t.2] 108 (0, 0))
  wr : Wr w base g v t.1
  ne : h ≠ g
  off : v.ownBlock ≠ some h
  bh : base ≤ h
  bg : base ≤ g
  cx : Cx w base p
section
variable {w w' w1 w2 : World} {base h g : Nat} {p : Po} {v v' v1 v2 : Value} {t t2 : WT}
theorem Wi.lt (c : Wi w base p h g v t) : h < w.heap.size ∧ g < w.heap.size := ⟨(Array.getElem?_eq_some_iff.1 c.blk).1, c.wr.lt⟩
theorem Wi.bw (c : Wi w base p h g v t) : base ≤ w.heap.size := c.cx.bw
theorem Wi.new (c : Wi w base p h g v t) (n : New w w') : Wi w' base p h g v t := ⟨n.blk c.blk, c.wr.new n, c.ne, c.off, c.bh, c.bg, c.cx.new n⟩
abbrev WH (h g : Nat) (v : Value) : Nat → Prop := fun b => WS g v b ∨ b = h
structure Ki (w : World) (base : Nat) (p : Po) (h g : Nat) (v : Value) (w' : World) (v' : Value) (t : WT) : Prop where
  wi : Wi w' base p h g v' t
  mod : Mod (WH h g v) w w'
  st : stayed w v v'
theorem Ki.refl (c : Wi w base p h g v t) : Ki w base p h g v w v t := ⟨c, Mod.refl _ _, stayed.refl w v⟩
theorem Ki.new (c : Ki w base p h g v w' v' t) (n : New w' w2) : Ki w base p h g v w2 v' t := ⟨c.wi.new n, both c.mod n.mod, c.st⟩
theorem Ki.then (c : Ki w base p h g v w1 v1 t) (k : Ki w1 base p h g v1 w2 v2 t2) : Ki w base p h g v w2 v2 t2 := by
  refine ⟨k.wi, Mod.trans c.mod k.mod ?_, stayed.trans c.st c.mod.size k.st⟩
  rintro b hb ((e | e) | e)
  · exact .inl (.inl e)
  · rcases c.st b e.symm with h1 | h1
    · exact .inl (.inr h1.symm)
    · omega
  · exact .inr e
theorem Wi.at_ (c : Wi w base p h g v t) {b : Nat} (e : WH h g v b) : base ≤ b := by
  have h1 := c.bh
  have h2 := c.bg
  rcases e with (e | e) | e
  · omega
  · exact (c.wr.vlt e.symm).1
  · omega
theorem Wi.old (c : Wi w base p h g v t) (m : Mod (WH h g v) w w') : Mod (fun b => base ≤ b) w w' := m.mono fun b _ e => c.at_ e
theorem Ki.old {t' : WT} (c : Wi w base p h g v t) (k : Ki w base p h g v w' v' t') : Mod (fun b => base ≤ b) w w' := c.old k.mod
theorem Wi.hi (c : Wi w base p h g v t) {b : Nat} (hb : w.heap.size ≤ b) : ¬ WH h g v b := by
  have := c.lt
  rintro ((e | e) | e)
  · omega
  · exact absurd (c.wr.vlt e.symm).2 (by omega)
  · omega
theorem wr_mod {S : Nat → Prop} {bs : List UInt8} (h : Wr w base g v bs) (m : Mod S w w') (hg : ¬ S g) (hv : ∀ k, v.ownBlock = some k → ¬ S k) : Wr w' base g v bs :=
  ⟨m.blk h.blk hg, own_mod m h.own hv, h.off⟩
theorem Wi.set (c : Wi w base p h g v t) (m : Mod (fun b => b = h) w w') {b : Bool} (hb : w'.heap[h]? = some (.cells #[.pointer (some ⟨g, 0, none⟩), p.v, .bool b] 108 (0, 0))) : Ki w base p h g v w' v (t.1, b) :=
  ⟨⟨hb, wr_mod c.wr m (fun e => c.ne e.symm) (fun k hk e => c.off (by rw [hk, e])), c.ne, c.off, c.bh, c.bg, c.cx.mod m fun b _ e => by rw [e]; exact c.bh⟩, m.mono fun _ _ e => .inr e, stayed.refl w v⟩
theorem Wi.act {bs : List UInt8} (c : Wi w base p h g v t) (k : Wk w base g v w' v' bs) : Ki w base p h g v w' v' (bs, t.2) := by
  have hl := c.lt.1
  refine ⟨⟨k.mod.blk c.blk ?_, k.wr, c.ne, ?_, c.bh, c.bg, c.cx.mod k.mod fun b _ e => c.at_ (.inl e)⟩, k.mod.mono fun _ _ e => .inl e, k.st⟩
  · rintro (e | e)
    · exact c.ne e
    · exact c.off e.symm
  · intro e
    rcases k.st h e with e | e
    · exact c.off e
    · omega
/-- A block that is none of the writer's stays. -/
theorem Ki.blk {t' : WT} {o : Obj} {b : Nat} (k : Ki w base p h g v w' v' t') (hb : w.heap[b]? = some o) (hn : ¬ WH h g v b) : w'.heap[b]? = some o := k.mod.blk hb hn
theorem Ki.hid {t' : WT} (k : Ki w base p h g v w' v' t') {b : Nat} (hb : b < w.heap.size) (hn : ¬ WH h g v b) : ¬ WH h g v' b := by
  rintro ((e | e) | e)
  · exact hn (.inl (.inl e))
  · rcases k.st b e.symm with h1 | h1
    · exact hn (.inl (.inr h1.symm))
    · omega
  · exact hn (.inr e)
end
theorem cell0 {w : World} {b : Nat} {u : Value} {ty : TypeId} (h : w.heap[b]? = some (.cells #[u] ty (0, 0))) : w.cell? ⟨b, 0, none⟩ = some u := by
  rw [cell_of_row _ _ 0 _ _ _ h]
  rfl
theorem allErr_good (k : Int) (zs : List Int) : (!decide (allErr k false zs = 0)) = !good k false zs := by
  unfold allErr
  cases good k false zs <;> rfl
theorem must_ok (base : Nat) (p : Po) (h g : Nat) (v : Value) (t : WT) (is : Bool) (w : World) (c : Wi w base p h g v t) :
    Calls Tryz.prog 54 #[.pointer (some ⟨h, 0, none⟩), .bool is] w fun e w' => e = .returned (.tuple #[]) ∧ Ki w base p h g v w' v (t.1, t.2 || !is) := by
  refine enter ok Tryz.func54 rfl rfl rfl ?_
  have hb := c.blk
  refine Exists.intro t.2 (And.intro (cellB hb rfl) ?_)
  refine if_ (fun hx => ?_) (fun hx => ?_)
  · refine And.intro ⟨_, cellB hb rfl⟩ (And.intro (fzB hb _) (force_ ?_))
    refine stK hb (show (2 : Nat) < 3 by decide) ?_
    intro w1 hb1 m1 s1
    rw [hx, Bool.true_or]
    exact ⟨rfl, c.set m1 hb1⟩
  · refine And.intro ⟨_, cellB hb rfl⟩ (And.intro (fzB hb _) (force_ ?_))
    refine stK hb (show (2 : Nat) < 3 by decide) ?_
    intro w1 hb1 m1 s1
    rw [hx, Bool.false_or]
    exact ⟨rfl, c.set m1 hb1⟩
theorem two_ok (base : Nat) (p : Po) (h g : Nat) (v : Value) (t : WT) (C : Option Addr) (q qc : Nat) (zs : List Int) (w : World) (c : Wi w base p h g v t) (hz : Row w C (ivs zs)) (hq : q = zs.length) (hC : ∀ a, C = some a → zs ≠ [] → ¬ WS g v a.block) (hm : t.1.length + 8 * zs.length ≤ 140737488355328) :
    Calls Tryz.prog 49 #[.pointer (some ⟨h, 0, none⟩), .slice C q qc] w fun e w' => e = .returned (.tuple #[]) ∧ ∃ v', Ki w base p h g v w' v' (noteU t 2 zs) := by
  refine enter ok Tryz.func49 rfl rfl rfl ?_
  refine Exists.intro (some ⟨g, 0, none⟩) (And.intro (cellB c.blk rfl) ?_)
  refine call_ (WU_ok base g v t.1 ((2 : Nat) : Int) C q qc zs w c.wr hz hq hC hm c.bw) ?_
  rintro e w1 ⟨rfl, v1, h1, h2, h3⟩
  refine ⟨_, rfl, ?_⟩
  have c1 := c.act ⟨h1, h2, h3⟩
  have hb := c1.wi.blk
  have hg := allErr_good ((2 : Nat) : Int) zs
  refine if_n (fun hne => ?_) (fun h0 => ?_)
  · replace hne : ¬ allErr ((2 : Nat) : Int) false zs = 0 := hne
    rw [decide_eq_false hne] at hg
    have e : noteU t 2 zs = (allBs t.1 ((2 : Nat) : Int) false zs, true) := by
      unfold noteU
      rw [← hg]
      simp
    rw [e]
    refine And.intro ⟨_, cellB hb rfl⟩ (And.intro (fzB hb _) (force_ ?_))
    refine stK hb (show (2 : Nat) < 3 by decide) ?_
    intro w2 hb2 m2 s2
    exact ⟨rfl, v1, c1.then (c1.wi.set m2 hb2)⟩
  · replace h0 : allErr ((2 : Nat) : Int) false zs = 0 := h0
    rw [decide_eq_true h0] at hg
    have e : noteU t 2 zs = (allBs t.1 ((2 : Nat) : Int) false zs, t.2) := by
      unfold noteU
      rw [← hg]
      simp
    rw [e]
    refine Exists.intro t.2 (And.intro (cellB hb rfl) ?_)
    refine And.intro ⟨_, cellB hb rfl⟩ (And.intro (fzB hb _) (force_ ?_))
    refine stK hb (show (2 : Nat) < 3 by decide) ?_
    intro w2 hb2 m2 s2
    exact ⟨rfl, v1, c1.then (c1.wi.set m2 hb2)⟩
/-- Numbers of a block of their own. -/
theorem two1_ok (base : Nat) (p : Po) (h g : Nat) (v : Value) (t : WT) (zs : List Int) (n : Nat) (w : World) (c : Wi w base p h g v t) (hn : n = zs.length) (hm : t.1.length + 8 * zs.length ≤ 140737488355328) :
    Calls Tryz.prog 49 #[.pointer (some ⟨h, 0, none⟩), .slice (some ⟨w.heap.size, 0, none⟩) n n] (w.alloc (.cells (ivs zs).toArray 3)) fun e w' => e = .returned (.tuple #[]) ∧ ∃ v', Ki w base p h g v w' v' (noteU t 2 zs) := by
  have n1 := New.alloc w (.cells (ivs zs).toArray 3)
  refine (two_ok base p h g v t (some ⟨w.heap.size, 0, none⟩) n n zs _ (c.new n1) (row_alloc w (ivs zs) _ _) hn c.wr.off1 hm).mono ?_
  rintro e w' ⟨rfl, v', k'⟩
  exact ⟨rfl, v', ((Ki.refl c).new n1).then k'⟩
theorem WUn (base : Nat) (p : Po) (h g : Nat) (v : Value) (t : WT) (k : Nat) (z : Int) (w : World) (c : Wi w base p h g v t) (hm : t.1.length ≤ 1000000000) :
    Calls Tryz.prog 48 #[.pointer (some ⟨g, 0, none⟩), .int .i64 (k : Int), .slice (some ⟨w.heap.size, 0, none⟩) 1 1] (w.alloc (.cells #[.int .i64 z] 3)) fun e w' => e = .returned (.int .i64 (allErr k false [z])) ∧ ∃ v', Ki w base p h g v w' v' (allBs t.1 k false [z], t.2) := by
  have a1 := New.alloc w (.cells #[.int .i64 z] 3)
  refine (WU_ok base g v t.1 k (some ⟨w.heap.size, 0, none⟩) 1 1 [z] _ (c.wr.new a1) (one_i64 w z) rfl c.wr.off1 (by simp; omega) (Nat.le_trans c.bw a1.size)).mono ?_
  rintro e w' ⟨rfl, v', h1, h2, h3⟩
  exact ⟨rfl, v', c.act (wk_of c.wr h1 h2 h3)⟩
/-- Bytes put. -/
theorem WBn (base : Nat) (p : Po) (h g : Nat) (v : Value) (t : WT) (C : Option Addr) (q qc : Nat) (ys : List UInt8) (w : World) (c : Wi w base p h g v t) (hy : Row w C (bvs ys)) (hq : q = ys.length) (hm : t.1.length + ys.length ≤ 1000000000) :
    Calls Tryz.prog 84 #[.pointer (some ⟨g, 0, none⟩), .slice C q qc] w fun e w' => e = .returned (.int .i64 0) ∧ ∃ v', Ki w base p h g v w' v' (t.1 ++ ys, t.2) := by
  refine (WB1 base g v t.1 C q qc ys w c.wr hy hq hm c.bw).mono ?_
  rintro e w' ⟨rfl, v', k⟩
  exact ⟨rfl, v', c.act k⟩
theorem part_ok (base : Nat) (p : Po) (h g : Nat) (v : Value) (t : WT) (w : World) (c : Wi w base p h g v t) :
    Calls Tryz.prog 58 #[.pointer (some ⟨h, 0, none⟩)] w fun e w' => ∃ h', h' ≠ w.heap.size ∧ e = .returned (.pointer (some ⟨h', 0, none⟩)) ∧ Wi w' base p h' w.heap.size (.slice none 0 0) ([], false) ∧ w.heap.size ≤ h' ∧ New w w' := by
  refine enter ok Tryz.func58 rfl rfl rfl ?_
  refine seq_assign ?_
  refine seq_cut (σ := Nat) (fun h' => [(2, .pointer (some ⟨h', 0, none⟩))]) (fun h' w' => h' ≠ w.heap.size ∧ Wi w' base p h' w.heap.size (.slice none 0 0) ([], false) ∧ w.heap.size ≤ h' ∧ New w w') ?_ ?_
  rotate_left
  · intro K hK
    refine draw_ (w := w) ok (.q 1 (.q 2 (.q 3 (.q 4 (.e 0 (.q 5 (.e 6 (.q 7 .done)))))))) [7] (New w) (by kernel_rfl) (by kernel_rfl) (by kernel_rfl) (by kernel_rfl) (by kernel_rfl) (New.drew _) ?_
    refine Exists.intro p.A (Exists.intro p.l.length (Exists.intro p.c (And.intro (fun w'' hw => cellB (hw.blk c.blk) rfl) ?_)))
    have nd := New.drew w
    have zd : w.drew.heap.size = w.heap.size := rfl
    refine call_ (Make_ok w.drew) ?_
    rintro e w2 ⟨rfl, wr2, n2, s2⟩
    refine ⟨_, rfl, ?_⟩
    refine Exists.intro (New w) (And.intro (fun _ h => h) (And.intro (nd.trans n2) ?_))
    have n3 := New.alloc w2 (.cells #[.pointer (some ⟨w.heap.size, 0, none⟩), p.v, .bool false] 108)
    have hb3 := heap_alloc_new w2 (.cells #[.pointer (some ⟨w.heap.size, 0, none⟩), p.v, .bool false] 108)
    have hw := c.bw
    refine Exists.intro (New w) (And.intro (fun _ h => h) (And.intro ((nd.trans n2).trans n3) ?_))
    refine hK w2.heap.size _ _ ⟨rfl, trivial⟩ ⟨by omega, ⟨hb3, ⟨(wr2.new n3).blk, ⟨rfl, .inl ⟨rfl, rfl⟩⟩, (wr2.new n3).off⟩, by omega, (fun h => by cases h), by omega, by omega, c.cx.new ((nd.trans n2).trans n3)⟩, by omega, (nd.trans n2).trans n3⟩
  rintro h' w2 fr2 ⟨hne, c2, hle, n2⟩
  exact ⟨h', hne, rfl, c2, hle, n2⟩
theorem idx_step {P : Ent → List UInt8 → Bool} {l : List Ent} {s : List UInt8} {i : Nat} (hi : i < l.length) (h : i ≤ idx P l s) (hp : P l[i] s = false) : i + 1 ≤ idx P l s := by
  rcases Nat.lt_or_ge i (idx P l s) with h1 | h1
  · exact h1
  · have e : idx P l s = i := by omega
    have := idx_at (P := P) (l := l) (s := s) (by omega)
    simp only [e] at this
    rw [hp] at this
    cases this
theorem idx_here {P : Ent → List UInt8 → Bool} {l : List Ent} {s : List UInt8} {i : Nat} (hi : i < l.length) (h : i ≤ idx P l s) (hp : P l[i] s = true) : idx P l s = i := by
  have h1 : idx P l s ≤ i := by
    unfold idx
    refine Nat.le_of_not_lt fun hc => ?_
    have := List.not_of_lt_findIdx hc
    rw [hp] at this
    cases this
  omega
theorem text1_ok (p : Po) (base : Nat) (s : List UInt8) (x : Ent) (S : Addr) (w : World) (_ : Cx w base p) (hS : w.cell? S = some (strV s)) :
    Calls Tryz.prog 88 #[.agg (entC x).toArray, .pointer (some S)] w fun e w' => e = .returned (.bool (utfP x s)) ∧ New w w' := by
  refine enter ok Tryz.func88 rfl rfl rfl ?_
  refine seq_cut (σ := Unit) (fun _ => [(1, .pointer (some S)), (2, .pointer (some ⟨w.heap.size, 0, none⟩))]) (fun _ w' => New w w' ∧ w'.heap[w.heap.size]? = some (.cells (entC x).toArray 85 (0, 0))) ?_ ?_
  rotate_left
  · intro K hK
    exact hK () _ _ ⟨rfl, rfl, trivial⟩ ⟨New.alloc w _, heap_alloc_new w (.cells (entC x).toArray 85)⟩
  rintro _ w1 fr1 ⟨n1, hX⟩
  refine Exists.intro x.tag (And.intro (cellB hX rfl) ?_)
  unfold utfP
  refine if_p (fun h1 => ?_) (fun h1 => ?_)
  · replace h1 : x.tag = 1 := h1
    refine Exists.intro (⟨x.text.toArray⟩ : ByteArray) (And.intro (cellB hX rfl) ?_)
    refine Exists.intro (⟨s.toArray⟩ : ByteArray) (And.intro (n1.cell hS) ?_)
    rw [decide_eq_true h1, Bool.true_and, ← Base.same_iff]
    exact ⟨rfl, n1⟩
  · replace h1 : ¬ x.tag = 1 := h1
    rw [decide_eq_false h1, Bool.false_and]
    exact ⟨rfl, n1⟩
theorem class1_ok (p : Po) (base : Nat) (s : List UInt8) (X Y : Addr) (h g : Nat) (v : Value) (t : WT) (hp : Nat) (x : Ent) (w : World) (c : Cx w base p) (hX : w.cell? X = some (.pointer (some ⟨h, 0, none⟩))) (hY : w.cell? Y = some (strV s)) (hH : w.heap[h]? = some (.cells #[.pointer (some ⟨g, 0, none⟩), p.v, .bool t.2] 108 (0, 0))) (hin : x.tag = 7 → 0 ≤ x.a ∧ x.a < (p.l.length : Int)) :
    Calls Tryz.prog 87 #[.agg (entC x).toArray, .pointer (some X), .pointer (some Y)] w fun e w' => e = .returned (.bool (clsP p.l x s)) ∧ New w w' := by
  refine enter ok Tryz.func87 rfl rfl rfl ?_
  refine seq_cut (σ := Unit) (fun _ => [(1, .pointer (some X)), (2, .pointer (some Y)), (3, .pointer (some ⟨w.heap.size, 0, none⟩))]) (fun _ w' => New w w' ∧ w'.heap[w.heap.size]? = some (.cells (entC x).toArray 85 (0, 0))) ?_ ?_
  rotate_left
  · intro K hK
    exact hK () _ _ ⟨rfl, rfl, rfl, trivial⟩ ⟨New.alloc w _, heap_alloc_new w (.cells (entC x).toArray 85)⟩
  rintro _ w1 fr1 ⟨n1, hx⟩
  refine seq_cut (σ := Bool) (fun b => [(4, .bool b)]) (fun b w' => b = clsP p.l x s ∧ New w w') ?_ ?_
  rotate_left
  · intro K hK
    unfold clsP at hK
    refine draw_ (w := w1) ok (.q 0 (.q 1 (.q 2 (.q 3 (.q 4 (.q 5 (.q 6 (.q 7 (.q 8 (.q 9 (.q 10 (.q 11 (.q 12 (.q 13 (.q 14 (.q 15 (.q 16 .done))))))))))))))))) [16] (New w1) (by kernel_rfl) (by kernel_rfl) (by kernel_rfl) (by kernel_rfl) (by kernel_rfl) (New.drew _) ?_
    refine Exists.intro x.tag (And.intro (fun w'' hw => cellB (hw.blk hx) rfl) ?_)
    refine if_p (fun h1 => ?_) (fun h1 => ?_)
    · replace h1 : x.tag = 7 := h1
      have h2 := hin h1
      have c1 := c.new n1
      have hi : x.a.toNat < p.l.length := by omega
      obtain ⟨a, ea, hok, hc⟩ := c1.pl.at_ hi
      refine Exists.intro (some ⟨h, 0, none⟩) (And.intro (fun w'' hw => hw.cell (n1.cell hX)) ?_)
      refine Exists.intro p.A (Exists.intro p.l.length (Exists.intro p.c (And.intro (fun w'' hw => cellB (hw.blk (n1.blk hH)) rfl) ?_)))
      refine Exists.intro x.a (And.intro (fun w'' hw => cellB (hw.blk hx) rfl) ?_)
      refine And.intro h2.1 (And.intro h2.2 ?_)
      refine some_at ea ?_
      have e1 : at_ p.l ((x.a.toNat : Nat) : Int) = at_ p.l x.a := by rw [Int.toNat_of_nonneg h2.1]
      rw [e1] at hc
      refine Exists.intro (⟨(at_ p.l x.a).text.toArray⟩ : ByteArray) (And.intro (fun w'' hw => hw.cell (hc 1 _ rfl)) ?_)
      refine Exists.intro (⟨s.toArray⟩ : ByteArray) (And.intro (fun w'' hw => hw.cell (n1.cell hY)) ?_)
      refine hK _ _ _ ⟨rfl, trivial⟩ ⟨?_, n1.trans (New.drew _)⟩
      rw [decide_eq_true h1, Bool.true_and, ← Base.same_iff]
    · replace h1 : ¬ x.tag = 7 := h1
      refine hK _ _ _ ⟨rfl, trivial⟩ ⟨?_, n1.trans (New.drew _)⟩
      rw [decide_eq_false h1, Bool.false_and]
  rintro b w2 fr2 ⟨rfl, n2⟩
  exact ⟨rfl, n2⟩
theorem index_text (p : Po) (base : Nat) (s : List UInt8) (S : Addr) (w : World) (c : Cx w base p) (hS : w.cell? S = some (strV s)) :
    Calls Tryz.prog 109 #[p.v, .func (.func 88) #[] #[.pointer (some S)]] w fun e w' => e = .returned (zi (findI utfP p.l s)) ∧ New w w' := by
  refine enter ok Tryz.func109 rfl rfl rfl ?_
  refine den_loop (σ := Nat) (fun i => [(0, p.v), (1, .func (.func 88) #[] #[.pointer (some S)]), (4, zi 0), (7, zi (p.l.length : Int)), (8, zi (i : Int))])
    (fun m i wl => m + i = p.l.length ∧ i ≤ idx utfP p.l s ∧ New w wl) p.l.length 0 ⟨rfl, rfl, rfl, rfl, rfl, trivial⟩ ⟨rfl, Nat.zero_le _, New.refl w⟩ ?_
  rintro m i wl fr0 ⟨hfuel, hno, nl⟩
  refine if_p (fun hlt => ?_) (fun hge => ?_)
  · replace hlt : (i : Int) < (p.l.length : Int) := hlt
    have hi : i < p.l.length := by omega
    obtain ⟨m, rfl⟩ : ∃ m', m = m' + 1 := ⟨m - 1, by omega⟩
    have cl := c.new nl
    obtain ⟨a, ea, hok, hc⟩ := cl.pl.at_ hi
    rw [Pool.at_lt hi] at hok hc
    refine And.intro (by omega) (And.intro hlt ?_)
    refine some_at ea ?_
    refine loadN_row (vs := entC p.l[i]) (by rw [Int.toNat_natCast]; exact hc) rfl ?_
    refine call_ (text1_ok p base s  p.l[i] S wl cl (nl.cell hS)) ?_
    rintro e w' ⟨rfl, n1⟩
    refine ⟨_, rfl, ?_⟩
    refine if_ (fun hb => ?_) (fun hb => ?_)
    · have e : findI utfP p.l s = (i : Int) := by
        unfold findI
        rw [idx_here hi hno hb, if_pos hi]
      rw [e]
      exact ⟨rfl, nl.trans n1⟩
    · have big := c.big
      have inc : Value.int .i64 (IntKind.i64.wrap ((i : Int) + 1)) = .int .i64 ((i + 1 : Nat) : Int) := by
        rw [wrap_i64 (by omega) (by omega)]
        rfl
      exact ⟨m, i + 1, by omega, ⟨rfl, rfl, rfl, rfl, inc, trivial⟩, by omega, idx_step hi hno hb, nl.trans n1⟩
  · replace hge : ¬ (i : Int) < (p.l.length : Int) := hge
    have e : findI utfP p.l s = -1 := by
      unfold findI
      rw [if_neg (by omega)]
    rw [e]
    exact ⟨rfl, nl⟩
theorem index_class (p : Po) (base : Nat) (s : List UInt8) (X Y : Addr) (h g : Nat) (v : Value) (t : WT) (hp : Nat) (w : World) (c : Cx w base p) (hX : w.cell? X = some (.pointer (some ⟨h, 0, none⟩))) (hY : w.cell? Y = some (strV s)) (hH : w.heap[h]? = some (.cells #[.pointer (some ⟨g, 0, none⟩), p.v, .bool t.2] 108 (0, 0))) (hin : ∀ (i : Nat) (hi : i < p.l.length), p.l[i].tag = 7 → 0 ≤ p.l[i].a ∧ p.l[i].a < (p.l.length : Int)) :
    Calls Tryz.prog 109 #[p.v, .func (.func 87) #[] #[.pointer (some X), .pointer (some Y)]] w fun e w' => e = .returned (zi (findI (clsP p.l) p.l s)) ∧ New w w' := by
  refine enter ok Tryz.func109 rfl rfl rfl ?_
  refine den_loop (σ := Nat) (fun i => [(0, p.v), (1, .func (.func 87) #[] #[.pointer (some X), .pointer (some Y)]), (4, zi 0), (7, zi (p.l.length : Int)), (8, zi (i : Int))])
    (fun m i wl => m + i = p.l.length ∧ i ≤ idx (clsP p.l) p.l s ∧ New w wl) p.l.length 0 ⟨rfl, rfl, rfl, rfl, rfl, trivial⟩ ⟨rfl, Nat.zero_le _, New.refl w⟩ ?_
  rintro m i wl fr0 ⟨hfuel, hno, nl⟩
  refine if_p (fun hlt => ?_) (fun hge => ?_)
  · replace hlt : (i : Int) < (p.l.length : Int) := hlt
    have hi : i < p.l.length := by omega
    obtain ⟨m, rfl⟩ : ∃ m', m = m' + 1 := ⟨m - 1, by omega⟩
    have cl := c.new nl
    obtain ⟨a, ea, hok, hc⟩ := cl.pl.at_ hi
    rw [Pool.at_lt hi] at hok hc
    refine And.intro (by omega) (And.intro hlt ?_)
    refine some_at ea ?_
    refine loadN_row (vs := entC p.l[i]) (by rw [Int.toNat_natCast]; exact hc) rfl ?_
    refine call_ (class1_ok p base s X Y h g v t hp p.l[i]  wl cl (nl.cell hX) (nl.cell hY) (nl.blk hH) (fun h7 => hin i hi h7)) ?_
    rintro e w' ⟨rfl, n1⟩
    refine ⟨_, rfl, ?_⟩
    refine if_ (fun hb => ?_) (fun hb => ?_)
    · have e : findI (clsP p.l) p.l s = (i : Int) := by
        unfold findI
        rw [idx_here hi hno hb, if_pos hi]
      rw [e]
      exact ⟨rfl, nl.trans n1⟩
    · have big := c.big
      have inc : Value.int .i64 (IntKind.i64.wrap ((i : Int) + 1)) = .int .i64 ((i + 1 : Nat) : Int) := by
        rw [wrap_i64 (by omega) (by omega)]
        rfl
      exact ⟨m, i + 1, by omega, ⟨rfl, rfl, rfl, rfl, inc, trivial⟩, by omega, idx_step hi hno hb, nl.trans n1⟩
  · replace hge : ¬ (i : Int) < (p.l.length : Int) := hge
    have e : findI (clsP p.l) p.l s = -1 := by
      unfold findI
      rw [if_neg (by omega)]
    rw [e]
    exact ⟨rfl, nl⟩
theorem number_text (p : Po) (base : Nat) (h g : Nat) (v : Value) (t : WT) (s : List UInt8) (S : Addr) (w : World) (c : Wi w base p h g v t) (hS : w.cell? S = some (strV s)) (hm : t.1.length ≤ 1000000000) :
    Calls Tryz.prog 86 #[.pointer (some ⟨h, 0, none⟩), .func (.func 88) #[] #[.pointer (some S)]] w fun e w' => e = .returned (.tuple #[]) ∧ ∃ v', Ki w base p h g v w' v' (noteU (t.1, t.2 || !decide (0 < findI utfP p.l s)) 2 [atN utfP p.l s]) := by
  refine enter ok Tryz.func86 rfl rfl rfl ?_
  obtain ⟨k, hk⟩ : ∃ k, k = findI utfP p.l s := ⟨_, rfl⟩
  have hat : atN utfP p.l s = if k < 0 then 0 else k := by rw [hk]; rfl
  rw [hat, ← hk]
  refine seq_cut (σ := Unit) (fun _ => [(0, .pointer (some ⟨h, 0, none⟩)), (4, zi k)]) (fun _ w' => New w w') ?_ ?_
  rotate_left
  · intro K hK
    refine Exists.intro p.A (Exists.intro p.l.length (Exists.intro p.c (And.intro (cellB c.blk rfl) ?_)))
    refine call_ (index_text p base s S w c.cx hS) ?_
    rintro e w1 ⟨rfl, n1⟩
    refine ⟨_, rfl, ?_⟩
    rw [← hk]
    exact hK () _ _ ⟨rfl, rfl, trivial⟩ n1
  rintro _ w1 fr1 n1
  have c1 := c.new n1
  refine seq_cut (σ := Unit) (fun _ => [(0, .pointer (some ⟨h, 0, none⟩)), (4, zi k)]) (fun _ w' => Ki w base p h g v w' v (t.1, t.2 || !decide (0 < k))) ?_ ?_
  rotate_left
  · intro K hK
    refine call_ (must_ok base p h g v t (decide (0 < k)) w1 c1) ?_
    rintro e w2 ⟨rfl, k2⟩
    refine ⟨_, rfl, ?_⟩
    exact hK () _ _ ⟨rfl, rfl, trivial⟩ (((Ki.refl c).new n1).then k2)
  rintro _ w2 fr2 k2
  refine call_ (two1_ok base p h g v _ [if k < 0 then 0 else k] 1 w2 k2.wi rfl (by simp; omega)) ?_
  rintro e w3 ⟨rfl, v3, k3⟩
  refine ⟨_, rfl, ?_⟩
  exact ⟨rfl, v3, k2.then k3⟩
theorem class_in {l : List Ent} (hO : OkPool l) (i : Nat) (hi : i < l.length) (h7 : l[i].tag = 7) : 0 ≤ l[i].a ∧ l[i].a < (l.length : Int) := by
  obtain ⟨_, hf⟩ := Pool.tag_right hO.1 hi (by rw [Pool.at_lt hi, h7]; decide)
  have := Pool.demand_class (Pool.fits_demand hf) (by rw [Pool.at_lt hi]; exact h7)
  rw [Pool.at_lt hi] at this
  obtain ⟨k, h1, h2, _⟩ := Pool.tag_in (by decide) this
  omega
theorem number_class (p : Po) (base : Nat) (h g : Nat) (v : Value) (t : WT) (s : List UInt8) (X Y : Addr) (w : World) (c : Wi w base p h g v t) (hX : w.cell? X = some (.pointer (some ⟨h, 0, none⟩))) (hY : w.cell? Y = some (strV s)) (hO : OkPool p.l) (hm : t.1.length ≤ 1000000000) :
    Calls Tryz.prog 86 #[.pointer (some ⟨h, 0, none⟩), .func (.func 87) #[] #[.pointer (some X), .pointer (some Y)]] w fun e w' => e = .returned (.tuple #[]) ∧ ∃ v', Ki w base p h g v w' v' (noteU (t.1, t.2 || !decide (0 < findI (clsP p.l) p.l s)) 2 [atN (clsP p.l) p.l s]) := by
  refine enter ok Tryz.func86 rfl rfl rfl ?_
  obtain ⟨k, hk⟩ : ∃ k, k = findI (clsP p.l) p.l s := ⟨_, rfl⟩
  have hat : atN (clsP p.l) p.l s = if k < 0 then 0 else k := by rw [hk]; rfl
  rw [hat, ← hk]
  refine seq_cut (σ := Unit) (fun _ => [(0, .pointer (some ⟨h, 0, none⟩)), (4, zi k)]) (fun _ w' => New w w') ?_ ?_
  rotate_left
  · intro K hK
    refine Exists.intro p.A (Exists.intro p.l.length (Exists.intro p.c (And.intro (cellB c.blk rfl) ?_)))
    refine call_ (index_class p base s X Y h g v t 0 w c.cx hX hY c.blk (class_in hO)) ?_
    rintro e w1 ⟨rfl, n1⟩
    refine ⟨_, rfl, ?_⟩
    rw [← hk]
    exact hK () _ _ ⟨rfl, rfl, trivial⟩ n1
  rintro _ w1 fr1 n1
  have c1 := c.new n1
  refine seq_cut (σ := Unit) (fun _ => [(0, .pointer (some ⟨h, 0, none⟩)), (4, zi k)]) (fun _ w' => Ki w base p h g v w' v (t.1, t.2 || !decide (0 < k))) ?_ ?_
  rotate_left
  · intro K hK
    refine call_ (must_ok base p h g v t (decide (0 < k)) w1 c1) ?_
    rintro e w2 ⟨rfl, k2⟩
    refine ⟨_, rfl, ?_⟩
    exact hK () _ _ ⟨rfl, rfl, trivial⟩ (((Ki.refl c).new n1).then k2)
  rintro _ w2 fr2 k2
  refine call_ (two1_ok base p h g v _ [if k < 0 then 0 else k] 1 w2 k2.wi rfl (by simp; omega)) ?_
  rintro e w3 ⟨rfl, v3, k3⟩
  refine ⟨_, rfl, ?_⟩
  exact ⟨rfl, v3, k2.then k3⟩
theorem wtext_ok (p : Po) (base : Nat) (h g : Nat) (v : Value) (t : WT) (s : List UInt8) (w : World) (c : Wi w base p h g v t) (hm : t.1.length ≤ 1000000000) :
    Calls Tryz.prog 55 #[.pointer (some ⟨h, 0, none⟩), strV s] w fun e w' => e = .returned (.tuple #[]) ∧ ∃ v' t', Ki w base p h g v w' v' t' ∧ Wri (utfT p.l) 2 t s t' := by
  refine enter ok Tryz.func55 rfl rfl rfl ?_
  refine seq_cut (σ := Unit) (fun _ => [(0, .pointer (some ⟨h, 0, none⟩)), (3, .pointer (some ⟨w.heap.size, 0, none⟩))]) (fun _ w' => New w w' ∧ w'.heap[w.heap.size]? = some (.cells #[strV s] 9 (0, 0))) ?_ ?_
  rotate_left
  · intro K hK
    exact hK () _ _ ⟨rfl, rfl, trivial⟩ ⟨New.alloc w _, heap_alloc_new w (.cells #[strV s] 9)⟩
  rintro _ w1 fr1 ⟨n1, hS⟩
  refine call_ (number_text p base h g v t s ⟨w.heap.size, 0, none⟩ w1 (c.new n1) (cell0 hS) hm) ?_
  rintro e w2 ⟨rfl, v2, k2⟩
  refine ⟨_, rfl, ?_⟩
  exact ⟨rfl, v2, _, ((Ki.refl c).new n1).then k2, Wri.ref rfl rfl⟩
theorem wclass_ok (p : Po) (base : Nat) (h g : Nat) (v : Value) (t : WT) (s : List UInt8) (w : World) (c : Wi w base p h g v t) (hO : OkPool p.l) (hm : t.1.length ≤ 1000000000) :
    Calls Tryz.prog 51 #[.pointer (some ⟨h, 0, none⟩), strV s] w fun e w' => e = .returned (.tuple #[]) ∧ ∃ v' t', Ki w base p h g v w' v' t' ∧ Wri (clsT p.l) 2 t s t' := by
  refine enter ok Tryz.func51 rfl rfl rfl ?_
  refine seq_cut (σ := Nat × Nat) (fun x => [(2, .pointer (some ⟨x.1, 0, none⟩)), (3, .pointer (some ⟨x.2, 0, none⟩))]) (fun x w' => New w w' ∧ w'.heap[x.1]? = some (.cells #[.pointer (some ⟨h, 0, none⟩)] 104 (0, 0)) ∧ w'.heap[x.2]? = some (.cells #[strV s] 9 (0, 0))) ?_ ?_
  rotate_left
  · intro K hK
    have n1 := New.alloc w (.cells #[.pointer (some ⟨h, 0, none⟩)] 104)
    have h1 := heap_alloc_new w (.cells #[.pointer (some ⟨h, 0, none⟩)] 104)
    have n2 := New.alloc (w.alloc (.cells #[.pointer (some ⟨h, 0, none⟩)] 104)) (.cells #[strV s] 9)
    exact hK (w.heap.size, _) _ _ ⟨rfl, rfl, trivial⟩ ⟨n1.trans n2, n2.blk h1, heap_alloc_new _ (.cells #[strV s] 9)⟩
  rintro ⟨x1, x2⟩ w1 fr1 ⟨n1, h1, h2⟩
  dsimp only at h1 h2
  refine Exists.intro (some ⟨h, 0, none⟩) (And.intro (cell0 h1) ?_)
  refine call_ (number_class p base h g v t s ⟨x1, 0, none⟩ ⟨x2, 0, none⟩ w1 (c.new n1) (cell0 h1) (cell0 h2) hO hm) ?_
  rintro e w2 ⟨rfl, v2, k2⟩
  refine ⟨_, rfl, ?_⟩
  exact ⟨rfl, v2, _, ((Ki.refl c).new n1).then k2, Wri.ref rfl rfl⟩

end Go.Proofs.YtdcaafldnbcdkaaGreatDoor.Class

/-! ### KRef1 -/
namespace Go.Proofs.YtdcaafldnbcdkaaGreatDoor.Class
open Go Go.Proofs.YtdcaafldnbcdkaaGreatDoor Go.Proofs.YtdcaafldnbcdkaaGreatDoor.Eng Go.Proofs Go.Proofs.YtdcaafldnbcdkaaGreatDoor.Word Go.Proofs.YtdcaafldnbcdkaaGreatDoor.Fmt
open Go.Proofs.YtdcaafldnbcdkaaGreatDoor.Pool (Ent at_ poolF strV entC entV EntOk Pl OkPool both own_low tagAt)
set_option maxRecDepth 10000

/-- The document's writer in memory. -/
structure Ri (w : World) (base : Nat) (p : Po) (h : Nat) (v : Value) (t : WT) : Prop where
  blk : w.heap[h]? = some (.cells #[p.v, v, .bool t.2] 135 (0, 0))
  own : w.ownsRow base 5 1 v t.1.length (bvs t.1)
  off : v.ownBlock ≠ some h
  bh : base ≤ h
  cx : Cx w base p
abbrev RHb (h : Nat) (v : Value) : Nat → Prop := fun b => some b = v.ownBlock ∨ b = h
structure Kr (w : World) (base : Nat) (p : Po) (h : Nat) (v : Value) (w' : World) (v' : Value) (t : WT) : Prop where
  ri : Ri w' base p h v' t
  mod : Mod (RHb h v) w w'
  st : stayed w v v'
section
variable {w w' w1 w2 : World} {base h : Nat} {p : Po} {v v' v1 v2 : Value} {t t2 : WT}
theorem Ri.lt (c : Ri w base p h v t) : h < w.heap.size := (Array.getElem?_eq_some_iff.1 c.blk).1
theorem Ri.bw (c : Ri w base p h v t) : base ≤ w.heap.size := c.cx.bw
theorem Ri.vlt (c : Ri w base p h v t) {b : Nat} (e : v.ownBlock = some b) : base ≤ b ∧ b < w.heap.size := c.own.lt b e
theorem Ri.new (c : Ri w base p h v t) (n : New w w') : Ri w' base p h v t := ⟨n.blk c.blk, own_new n c.own, c.off, c.bh, c.cx.new n⟩
theorem Kr.refl (c : Ri w base p h v t) : Kr w base p h v w v t := ⟨c, Mod.refl _ _, stayed.refl w v⟩
theorem Kr.new (c : Kr w base p h v w' v' t) (n : New w' w2) : Kr w base p h v w2 v' t := ⟨c.ri.new n, both c.mod n.mod, c.st⟩
theorem Kr.then (c : Kr w base p h v w1 v1 t) (k : Kr w1 base p h v1 w2 v2 t2) : Kr w base p h v w2 v2 t2 := by
  refine ⟨k.ri, Mod.trans c.mod k.mod ?_, stayed.trans c.st c.mod.size k.st⟩
  rintro b hb (e | e)
  · rcases c.st b e.symm with h1 | h1
    · exact .inl h1.symm
    · omega
  · exact .inr e
theorem Ri.at_ (c : Ri w base p h v t) {b : Nat} (e : RHb h v b) : base ≤ b := by
  have h1 := c.bh
  rcases e with e | e
  · exact (c.vlt e.symm).1
  · omega
theorem Ri.hi (c : Ri w base p h v t) {b : Nat} (hb : w.heap.size ≤ b) : ¬ RHb h v b := by
  have := c.lt
  rintro (e | e)
  · exact absurd (c.vlt e.symm).2 (by omega)
  · omega
/-- The mark is set. -/
theorem Ri.set (c : Ri w base p h v t) (m : Mod (fun b => b = h) w w') {b : Bool} (hb : w'.heap[h]? = some (.cells #[p.v, v, .bool b] 135 (0, 0))) : Kr w base p h v w' v (t.1, b) :=
  ⟨⟨hb, own_mod m c.own (fun k hk e => c.off (by rw [hk, e])), c.off, c.bh, c.cx.mod m fun b _ e => by rw [e]; exact c.bh⟩, m.mono fun _ _ e => .inr e, stayed.refl w v⟩
/-- The bytes are set. -/
theorem Ri.put (c : Ri w base p h v t) {bs : List UInt8} (n : Mod (fun b => some b = v.ownBlock) w w1) (own : w1.ownsRow base 5 1 v1 bs.length (bvs bs)) (st : stayed w v v1) (m : Mod (fun b => b = h) w1 w2)
    (hb : w2.heap[h]? = some (.cells #[p.v, v1, .bool t.2] 135 (0, 0))) : Kr w base p h v w2 v1 (bs, t.2) := by
  have hl := c.lt
  have hoff : v1.ownBlock ≠ some h := fun e => by
    rcases st h e with h1 | h1
    · exact c.off h1
    · omega
  have hm : Mod (RHb h v) w w2 := Mod.trans (n.mono fun _ _ e => .inl e) m fun _ _ e => .inr e
  exact ⟨⟨hb, own_mod m own (fun k hk e => hoff (by rw [hk, e])), hoff, c.bh, c.cx.mod hm fun b _ e => c.at_ e⟩, hm, st⟩
theorem Kr.blk {t' : WT} {o : Obj} {b : Nat} (k : Kr w base p h v w' v' t') (hb : w.heap[b]? = some o) (hn : ¬ RHb h v b) : w'.heap[b]? = some o := k.mod.blk hb hn
theorem Kr.hid {t' : WT} (k : Kr w base p h v w' v' t') {b : Nat} (hb : b < w.heap.size) (hn : ¬ RHb h v b) : ¬ RHb h v' b := by
  rintro (e | e)
  · rcases k.st b e.symm with h1 | h1
    · exact hn (.inl h1.symm)
    · omega
  · exact hn (.inr e)
theorem Kr.old {t' : WT} (c : Ri w base p h v t) (k : Kr w base p h v w' v' t') : Mod (fun b => base ≤ b) w w' := k.mod.mono fun b _ e => c.at_ e
end
theorem rmust_ok (base : Nat) (p : Po) (h : Nat) (v : Value) (t : WT) (is : Bool) (w : World) (c : Ri w base p h v t) :
    Calls Tryz.prog 73 #[.pointer (some ⟨h, 0, none⟩), .bool is] w fun e w' => e = .returned (.tuple #[]) ∧ Kr w base p h v w' v (t.1, t.2 || !is) := by
  refine enter ok Tryz.func73 rfl rfl rfl ?_
  have hb := c.blk
  refine Exists.intro t.2 (And.intro (cellB hb rfl) ?_)
  refine if_ (fun hx => ?_) (fun hx => ?_)
  · refine And.intro ⟨_, cellB hb rfl⟩ (And.intro (fzB hb _) (force_ ?_))
    refine stK hb (show (2 : Nat) < 3 by decide) ?_
    intro w1 hb1 m1 s1
    rw [hx, Bool.true_or]
    exact ⟨rfl, c.set m1 hb1⟩
  · refine And.intro ⟨_, cellB hb rfl⟩ (And.intro (fzB hb _) (force_ ?_))
    refine stK hb (show (2 : Nat) < 3 by decide) ?_
    intro w1 hb1 m1 s1
    rw [hx, Bool.false_or]
    exact ⟨rfl, c.set m1 hb1⟩
theorem own_le' {w : World} {b0 b1 n : Nat} {v : Value} {e : TypeId} {sz : Nat} {cs : List Value} (h : w.ownsRow b1 e sz v n cs) (hb : b0 ≤ b1) : w.ownsRow b0 e sz v n cs := by
  refine ⟨h.1, ?_⟩
  rcases h.2 with h' | ⟨g, cap, cur, h1, h2, h3⟩
  · exact .inl h'
  · exact .inr ⟨g, cap, cur, h1, Nat.le_trans hb h2, h3⟩
theorem stayed_fresh {w w' : World} {v v' : Value} {base n : Nat} {xs : List Value} {e : TypeId} {size : Nat} (o : w'.ownsRow w.heap.size e size v' n xs) : stayed w v v' := fun b hb => .inr (o.lt b hb).1
theorem ru_ok (base : Nat) (p : Po) (h : Nat) (v : Value) (t : WT) (k : Nat) (C : Option Addr) (q qc : Nat) (zs : List Int) (w : World) (c : Ri w base p h v t) (hz : Row w C (ivs zs)) (hq : q = zs.length) (hb : ∀ z ∈ zs, -9223372036854775808 ≤ z ∧ z ≤ 9223372036854775807) (hm : t.1.length + 8 * zs.length ≤ 140737488355328) :
    Calls Tryz.prog 71 #[.pointer (some ⟨h, 0, none⟩), .int .i64 (k : Int), .slice C q qc] w fun e w' => e = .returned (.tuple #[]) ∧ ∃ v', Kr w base p h v w' v' (noteU t k zs) := by
  refine enter ok Tryz.func71 rfl rfl rfl ?_
  obtain ⟨A, cA, rfl, hc1, hc2, rowA, _⟩ := own_slice c.own
  obtain ⟨er, her⟩ : ∃ er, er = allErr (k : Int) false zs := ⟨_, rfl⟩
  have hg : (!decide (er = 0)) = !good (k : Int) false zs := by rw [her]; exact allErr_good (k : Int) zs
  refine seq_cut (σ := Option Addr × Nat) (fun s => [(0, .pointer (some ⟨h, 0, none⟩)), (6, .slice s.1 (allBs t.1 (k : Int) false zs).length s.2), (7, .int .i64 er)]) (fun s w' => New w w' ∧ (good (k : Int) false zs = true → w'.ownsRow w.heap.size 5 1 (.slice s.1 (allBs t.1 (k : Int) false zs).length s.2) (allBs t.1 (k : Int) false zs).length (bvs (allBs t.1 (k : Int) false zs))) ∧ (good (k : Int) false zs = false → s.1 = A ∧ s.2 = cA)) ?_ ?_
  rotate_left
  · intro K hK
    refine Exists.intro A (Exists.intro t.1.length (Exists.intro cA (And.intro (cellB c.blk rfl) ?_)))
    refine call_ (PutO_ok A cA t.1 (k : Int) false C q qc zs w rowA hc1 hc2 hz hq hb hm) ?_
    rintro e w1 ⟨A1, c1, rfl, n1, g1, g2⟩
    refine ⟨_, rfl, ?_⟩
    rw [← her]
    exact hK (A1, c1) _ _ ⟨rfl, rfl, rfl, trivial⟩ ⟨n1, g1, g2⟩
  rintro ⟨A1, c1⟩ w1 fr1 ⟨n1, g1, g2⟩
  dsimp only at g1 g2
  have c1' := c.new n1
  have hb1 := c1'.blk
  -- the row behind
  have own1 : w1.ownsRow base 5 1 (.slice A1 (allBs t.1 (k : Int) false zs).length c1) (allBs t.1 (k : Int) false zs).length (bvs (allBs t.1 (k : Int) false zs)) ∧ stayed w (.slice A t.1.length cA) (.slice A1 (allBs t.1 (k : Int) false zs).length c1) := by
    cases hgd : good (k : Int) false zs with
    | true =>
      have o := g1 hgd
      refine ⟨own_le' o c.bw, fun b hb => .inr (o.lt b hb).1⟩
    | false =>
      obtain ⟨rfl, rfl⟩ := g2 hgd
      have e : allBs t.1 (k : Int) false zs = t.1 := by unfold allBs; rw [hgd]; rfl
      rw [e]
      exact ⟨c1'.own, stayed.refl _ _⟩
  refine seq_cut (σ := Unit) (fun _ => [(0, .pointer (some ⟨h, 0, none⟩)), (7, .int .i64 er)]) (fun _ w' => Kr w base p h (.slice A t.1.length cA) w' (.slice A1 (allBs t.1 (k : Int) false zs).length c1) (allBs t.1 (k : Int) false zs, t.2)) ?_ ?_
  rotate_left
  · intro K hK
    refine And.intro ⟨_, cellB hb1 rfl⟩ (And.intro (fzB hb1 _) (force_ ?_))
    refine stK hb1 (show (1 : Nat) < 3 by decide) ?_
    intro w2 hb2 m2 s2
    exact hK () _ _ ⟨rfl, rfl, trivial⟩ (c.put (n1.mod.mono fun _ _ e => False.elim e) own1.1 own1.2 m2 hb2)
  rintro _ w2 fr2 k2
  have hb2 := k2.ri.blk
  have fin : ∀ {w3 : World} {b : Bool}, b = (t.2 || !good (k : Int) false zs) → Kr w2 base p h (.slice A1 (allBs t.1 (k : Int) false zs).length c1) w3 (.slice A1 (allBs t.1 (k : Int) false zs).length c1) (allBs t.1 (k : Int) false zs, b) → Kr w base p h (.slice A t.1.length cA) w3 (.slice A1 (allBs t.1 (k : Int) false zs).length c1) (noteU t k zs) := fun e k3 => by
    have := k2.then k3
    rw [e] at this
    exact this
  refine Exists.intro t.2 (And.intro (cellB hb2 rfl) ?_)
  refine if_ (fun hx => ?_) (fun hx => ?_)
  · refine And.intro ⟨_, cellB hb2 rfl⟩ (And.intro (fzB hb2 _) (force_ ?_))
    refine stK hb2 (show (2 : Nat) < 3 by decide) ?_
    intro w3 hb3 m3 s3
    exact ⟨rfl, _, fin (by rw [hx, Bool.true_or]) (k2.ri.set m3 hb3)⟩
  · refine And.intro ⟨_, cellB hb2 rfl⟩ (And.intro (fzB hb2 _) (force_ ?_))
    refine stK hb2 (show (2 : Nat) < 3 by decide) ?_
    intro w3 hb3 m3 s3
    exact ⟨rfl, _, fin (by rw [hx, Bool.false_or, ← hg]) (k2.ri.set m3 hb3)⟩

end Go.Proofs.YtdcaafldnbcdkaaGreatDoor.Class

/-! ### KRef2 -/
namespace Go.Proofs.YtdcaafldnbcdkaaGreatDoor.Class
open Go Go.Proofs.YtdcaafldnbcdkaaGreatDoor Go.Proofs.YtdcaafldnbcdkaaGreatDoor.Eng Go.Proofs Go.Proofs.YtdcaafldnbcdkaaGreatDoor.Word Go.Proofs.YtdcaafldnbcdkaaGreatDoor.Fmt
open Go.Proofs.YtdcaafldnbcdkaaGreatDoor.Pool (Ent at_ poolF strV entC entV EntOk Pl OkPool both own_low tagAt)
set_option maxRecDepth 10000

theorem bare_of {l : List Ent} (hO : OkPool l) {i : Nat} (hi : i < l.length) (ht : l[i].tag ≠ 0) : l[i] = Pool.bare l[i] := by
  obtain ⟨_, hf⟩ := Pool.tag_right hO.1 hi (by rw [Pool.at_lt hi]; exact ht)
  unfold Pool.fits at hf
  rw [Bool.and_eq_true, decide_eq_true_eq, Pool.at_lt hi] at hf
  exact hf.1
theorem utf_is {l : List Ent} (hO : OkPool l) {i : Nat} (hi : i < l.length) (s : List UInt8) : decide (l[i] = (⟨1, s, 0, 0, 0⟩ : Ent)) = utfP l[i] s := by
  unfold utfP
  by_cases h1 : l[i].tag = 1
  · have hb := bare_of hO hi (by rw [h1]; decide)
    unfold Pool.bare at hb
    rw [if_pos h1] at hb
    rw [decide_eq_true h1, Bool.true_and]
    by_cases h2 : l[i].text = s
    · rw [decide_eq_true h2]
      refine decide_eq_true ?_
      rw [hb, h1, h2]
    · rw [decide_eq_false h2]
      refine decide_eq_false fun e => h2 ?_
      rw [e]
  · rw [decide_eq_false h1, Bool.false_and]
    refine decide_eq_false fun e => h1 ?_
    rw [e]
theorem head_no {l : List Ent} (hO : OkPool l) : ∃ h : 0 < l.length, l[0] = Pool.e0 := by
  have hp := hO.1.pos
  refine ⟨by omega, ?_⟩
  have := hO.1.head
  have e : at_ l ((0 : Nat) : Int) = l[0] := Pool.at_lt (by omega)
  exact e.symm.trans this
theorem idx_one {P : Ent → List UInt8 → Bool} {l : List Ent} (hO : OkPool l) (s : List UInt8) (h0 : P Pool.e0 s = false) : 1 ≤ idx P l s := by
  obtain ⟨h, e⟩ := head_no hO
  exact idx_step h (Nat.zero_le _) (by rw [e]; exact h0)
theorem atN_here {P : Ent → List UInt8 → Bool} {l : List Ent} {s : List UInt8} {i : Nat} (hi : i < l.length) (h : i ≤ idx P l s) (hp : P l[i] s = true) : atN P l s = (i : Int) := by
  unfold atN findI
  rw [idx_here hi h hp, if_pos hi, if_neg (by omega)]
theorem atN_none {P : Ent → List UInt8 → Bool} {l : List Ent} {s : List UInt8} (h : l.length ≤ idx P l s) : atN P l s = 0 := by
  have e : findI P l s = -1 := by
    unfold findI
    rw [if_neg (by omega)]
  unfold atN
  rw [e]
  rfl
theorem rutf_ok (p : Po) (base : Nat) (s : List UInt8) (w : World) (c : Cx w base p) (hO : OkPool p.l) :
    Calls Tryz.prog 100 #[p.v, strV s] w fun e w' => e = .returned (zi (atN utfP p.l s)) ∧ w' = w := by
  refine enter ok Tryz.func100 rfl rfl rfl ?_
  have hpos := hO.1.pos
  have hmax := hO.2
  refine den_loop (σ := Nat) (fun i => [(0, p.v), (1, strV s), (5, zi (i : Int))]) (fun m i wl => m + i = p.l.length ∧ 1 ≤ i ∧ i ≤ idx utfP p.l s ∧ wl = w) (p.l.length - 1) 1 ⟨rfl, rfl, rfl, trivial⟩ ⟨by omega, Nat.le_refl _, idx_one hO s rfl, rfl⟩ ?_
  rintro m i wl frl ⟨hfuel, h1, hno, hwl⟩
  obtain rfl := hwl.symm
  refine if_p (fun hlt => ?_) (fun hge => ?_)
  · replace hlt : (i : Int) < (p.l.length : Int) := hlt
    have hi : i < p.l.length := by omega
    obtain ⟨m, rfl⟩ : ∃ m', m = m' + 1 := ⟨m - 1, by omega⟩
    obtain ⟨a, ea, hok, hc⟩ := c.pl.at_ hi
    rw [Pool.at_lt hi] at hok hc
    refine And.intro (by omega) (And.intro hlt ?_)
    refine some_at ea ?_
    refine loadN_row (vs := entC p.l[i]) (by rw [Int.toNat_natCast]; exact hc) rfl ?_
    refine Pool.ent_eql (p := p.l[i]) (q := ⟨1, s, 0, 0, 0⟩) rfl rfl rfl ?_
    have hu := utf_is hO hi s
    refine if_p (fun he => ?_) (fun he => ?_)
    · rw [decide_eq_true he] at hu
      rw [atN_here hi hno hu.symm]
      exact ⟨rfl, rfl⟩
    · rw [decide_eq_false he] at hu
      have inc : Value.int .i64 (IntKind.i64.wrap ((i : Int) + 1)) = .int .i64 ((i + 1 : Nat) : Int) := by
        rw [wrap_i64 (by omega) (by omega)]
        rfl
      exact ⟨m, i + 1, by omega, ⟨rfl, rfl, inc, trivial⟩, by omega, by omega, idx_step hi hno hu.symm, rfl⟩
  · replace hge : ¬ (i : Int) < (p.l.length : Int) := hge
    rw [atN_none (by omega)]
    exact ⟨rfl, rfl⟩
theorem rclass_ok (p : Po) (base : Nat) (s : List UInt8) (w : World) (c : Cx w base p) (hO : OkPool p.l) :
    Calls Tryz.prog 99 #[p.v, strV s] w fun e w' => e = .returned (zi (atN (clsP p.l) p.l s)) ∧ w' = w := by
  refine enter ok Tryz.func99 rfl rfl rfl ?_
  have hpos := hO.1.pos
  have hmax := hO.2
  refine den_loop (σ := Nat) (fun i => [(0, p.v), (1, strV s), (5, zi (i : Int))]) (fun m i wl => m + i = p.l.length ∧ 1 ≤ i ∧ i ≤ idx (clsP p.l) p.l s ∧ wl = w) (p.l.length - 1) 1 ⟨rfl, rfl, rfl, trivial⟩ ⟨by omega, Nat.le_refl _, idx_one hO s rfl, rfl⟩ ?_
  rintro m i wl frl ⟨hfuel, h1, hno, hwl⟩
  obtain rfl := hwl.symm
  refine if_p (fun hlt => ?_) (fun hge => ?_)
  · replace hlt : (i : Int) < (p.l.length : Int) := hlt
    have hi : i < p.l.length := by omega
    obtain ⟨m, rfl⟩ : ∃ m', m = m' + 1 := ⟨m - 1, by omega⟩
    have inc : Value.int .i64 (IntKind.i64.wrap ((i : Int) + 1)) = .int .i64 ((i + 1 : Nat) : Int) := by
      rw [wrap_i64 (by omega) (by omega)]
      rfl
    obtain ⟨a, ea, hok, hc⟩ := c.pl.at_ hi
    rw [Pool.at_lt hi] at hok hc
    refine And.intro (by omega) (And.intro hlt ?_)
    refine some_at ea ?_
    refine Exists.intro p.l[i].tag (And.intro (by rw [Int.toNat_natCast]; exact hc 0 _ rfl) ?_)
    have hno' : clsP p.l p.l[i] s = false → i + 1 ≤ idx (clsP p.l) p.l s := fun h => idx_step hi hno h
    refine if_p (fun h7 => ?_) (fun h7 => ?_)
    · replace h7 : p.l[i].tag = 7 := h7
      have h2 := class_in hO i hi h7
      have hi2 : p.l[i].a.toNat < p.l.length := by omega
      obtain ⟨a2, ea2, _, hc2⟩ := c.pl.at_ hi2
      have e1 : at_ p.l ((p.l[i].a.toNat : Nat) : Int) = at_ p.l p.l[i].a := by rw [Int.toNat_of_nonneg h2.1]
      rw [e1] at hc2
      refine And.intro (by omega) (And.intro hlt ?_)
      refine some_at ea ?_
      refine Exists.intro p.l[i].a (And.intro (by rw [Int.toNat_natCast]; exact hc 3 _ rfl) ?_)
      refine And.intro h2.1 (And.intro h2.2 ?_)
      refine some_at ea2 ?_
      refine Exists.intro (⟨(at_ p.l p.l[i].a).text.toArray⟩ : ByteArray) (And.intro (hc2 1 _ rfl) ?_)
      have hcl : clsP p.l p.l[i] s = decide ((at_ p.l p.l[i].a).text = s) := by
        unfold clsP
        rw [decide_eq_true h7, Bool.true_and]
      refine if_ (fun he => ?_) (fun he => ?_)
      · rw [Base.same_iff] at he
        rw [atN_here hi hno (hcl.trans he)]
        exact ⟨rfl, rfl⟩
      · rw [Base.same_iff] at he
        exact ⟨m, i + 1, by omega, ⟨rfl, rfl, inc, trivial⟩, by omega, by omega, hno' (hcl.trans he), rfl⟩
    · replace h7 : ¬ p.l[i].tag = 7 := h7
      refine ⟨m, i + 1, by omega, ⟨rfl, rfl, inc, trivial⟩, by omega, by omega, hno' ?_, rfl⟩
      unfold clsP
      rw [decide_eq_false h7, Bool.false_and]
  · replace hge : ¬ (i : Int) < (p.l.length : Int) := hge
    rw [atN_none (by omega)]
    exact ⟨rfl, rfl⟩
/-- Numbers of a block of their own. -/
theorem ruL_ok (base : Nat) (p : Po) (h : Nat) (v : Value) (t : WT) (k : Nat) (zs : List Int) (n : Nat) (w : World) (c : Ri w base p h v t) (hn : n = zs.length) (hb : ∀ z ∈ zs, -9223372036854775808 ≤ z ∧ z ≤ 9223372036854775807) (hm : t.1.length + 8 * zs.length ≤ 140737488355328) :
    Calls Tryz.prog 71 #[.pointer (some ⟨h, 0, none⟩), .int .i64 (k : Int), .slice (some ⟨w.heap.size, 0, none⟩) n n] (w.alloc (.cells (ivs zs).toArray 3)) fun e w' => e = .returned (.tuple #[]) ∧ ∃ v', Kr w base p h v w' v' (noteU t k zs) := by
  have n1 := New.alloc w (.cells (ivs zs).toArray 3)
  refine (ru_ok base p h v t k (some ⟨w.heap.size, 0, none⟩) n n zs _ (c.new n1) (row_alloc w (ivs zs) _ _) hn hb hm).mono ?_
  rintro e w' ⟨rfl, v', k'⟩
  exact ⟨rfl, v', ((Kr.refl c).new n1).then k'⟩
theorem atN_i64 {P : Ent → List UInt8 → Bool} {l : List Ent} {s : List UInt8} (h : l.length ≤ 1024) : ∀ z ∈ [atN P l s], -9223372036854775808 ≤ z ∧ z ≤ 9223372036854775807 := fun z hz => by
  rw [List.mem_singleton.1 hz]
  unfold atN findI
  split <;> split <;> omega
theorem atN_pos {P : Ent → List UInt8 → Bool} {l : List Ent} {s : List UInt8} : decide (0 < atN P l s) = decide (0 < findI P l s) := by
  unfold atN
  split
  · rw [decide_eq_false (by decide), decide_eq_false (by omega)]
  · rfl
theorem rwutf_ok (base : Nat) (p : Po) (h : Nat) (v : Value) (t : WT) (s : List UInt8) (w : World) (c : Ri w base p h v t) (hO : OkPool p.l) (hm : t.1.length ≤ 1000000000) :
    Calls Tryz.prog 74 #[.pointer (some ⟨h, 0, none⟩), strV s] w fun e w' => e = .returned (.tuple #[]) ∧ ∃ v' t', Kr w base p h v w' v' t' ∧ Wri (utfT p.l) 2 t s t' := by
  refine enter ok Tryz.func74 rfl rfl rfl ?_
  refine seq_cut (σ := Unit) (fun _ => [(0, .pointer (some ⟨h, 0, none⟩)), (1, strV s)]) (fun _ w' => Kr w base p h v w' v (t.1, t.2 || !decide (0 < findI utfP p.l s))) ?_ ?_
  rotate_left
  · intro K hK
    refine Exists.intro p.A (Exists.intro p.l.length (Exists.intro p.c (And.intro (cellB c.blk rfl) ?_)))
    refine call_ (rutf_ok p base s w c.cx hO) ?_
    rintro e w1 ⟨rfl, hw1⟩
    obtain rfl := hw1.symm
    refine ⟨_, rfl, ?_⟩
    refine call_ (rmust_ok base p h v t (decide (0 < atN utfP p.l s)) w c) ?_
    rintro e w2 ⟨rfl, k2⟩
    refine ⟨_, rfl, ?_⟩
    rw [atN_pos] at k2
    exact hK () _ _ ⟨rfl, rfl, trivial⟩ k2
  rintro _ w1 fr1 k1
  refine Exists.intro p.A (Exists.intro p.l.length (Exists.intro p.c (And.intro (cellB k1.ri.blk rfl) ?_)))
  refine call_ (rutf_ok p base s w1 k1.ri.cx hO) ?_
  rintro e w2 ⟨rfl, hw2⟩
  obtain rfl := hw2.symm
  refine ⟨_, rfl, ?_⟩
  refine call_ (ruL_ok base p h v _ 2 [atN utfP p.l s] 1 w1 k1.ri rfl (atN_i64 hO.2) (by simp; omega)) ?_
  rintro e w3 ⟨rfl, v3, k3⟩
  refine ⟨_, rfl, ?_⟩
  exact ⟨rfl, v3, _, k1.then k3, Wri.ref rfl rfl⟩
theorem rwclass_ok (base : Nat) (p : Po) (h : Nat) (v : Value) (t : WT) (s : List UInt8) (w : World) (c : Ri w base p h v t) (hO : OkPool p.l) (hm : t.1.length ≤ 1000000000) :
    Calls Tryz.prog 72 #[.pointer (some ⟨h, 0, none⟩), strV s] w fun e w' => e = .returned (.tuple #[]) ∧ ∃ v' t', Kr w base p h v w' v' t' ∧ Wri (clsT p.l) 2 t s t' := by
  refine enter ok Tryz.func72 rfl rfl rfl ?_
  refine seq_cut (σ := Unit) (fun _ => [(0, .pointer (some ⟨h, 0, none⟩)), (1, strV s)]) (fun _ w' => Kr w base p h v w' v (t.1, t.2 || !decide (0 < findI (clsP p.l) p.l s))) ?_ ?_
  rotate_left
  · intro K hK
    refine Exists.intro p.A (Exists.intro p.l.length (Exists.intro p.c (And.intro (cellB c.blk rfl) ?_)))
    refine call_ (rclass_ok p base s w c.cx hO) ?_
    rintro e w1 ⟨rfl, hw1⟩
    obtain rfl := hw1.symm
    refine ⟨_, rfl, ?_⟩
    refine call_ (rmust_ok base p h v t (decide (0 < atN (clsP p.l) p.l s)) w c) ?_
    rintro e w2 ⟨rfl, k2⟩
    refine ⟨_, rfl, ?_⟩
    rw [atN_pos] at k2
    exact hK () _ _ ⟨rfl, rfl, trivial⟩ k2
  rintro _ w1 fr1 k1
  refine Exists.intro p.A (Exists.intro p.l.length (Exists.intro p.c (And.intro (cellB k1.ri.blk rfl) ?_)))
  refine call_ (rclass_ok p base s w1 k1.ri.cx hO) ?_
  rintro e w2 ⟨rfl, hw2⟩
  obtain rfl := hw2.symm
  refine ⟨_, rfl, ?_⟩
  refine call_ (ruL_ok base p h v _ 2 [atN (clsP p.l) p.l s] 1 w1 k1.ri rfl (atN_i64 hO.2) (by simp; omega)) ?_
  rintro e w3 ⟨rfl, v3, k3⟩
  refine ⟨_, rfl, ?_⟩
  exact ⟨rfl, v3, _, k1.then k3, Wri.ref rfl rfl⟩

end Go.Proofs.YtdcaafldnbcdkaaGreatDoor.Class

/-! ### KWrite2 -/
namespace Go.Proofs.YtdcaafldnbcdkaaGreatDoor.Class
open Go Go.Proofs.YtdcaafldnbcdkaaGreatDoor Go.Proofs.YtdcaafldnbcdkaaGreatDoor.Eng Go.Proofs Go.Proofs.YtdcaafldnbcdkaaGreatDoor.Word Go.Proofs.YtdcaafldnbcdkaaGreatDoor.Fmt
open Go.Proofs.YtdcaafldnbcdkaaGreatDoor.Pool (Ent at_ poolF strV entC entV EntOk Pl OkPool both own_low tagAt)
set_option maxRecDepth 10000

theorem Ki.lrep {α : Type} {R : RepT α} {sz : Nat} {w w' : World} {base h g : Nat} {p : Po} {v v' vl : Value} {t : WT} {xs : List α} (k : Ki w base p h g v w' v' t) (hR : RepOk R sz) (hsz : 0 < sz) (hl : LRep R w (WH h g v) vl xs) : LRep R w' (WH h g v') vl xs := by
  have h1 := LRep.weak (S' := fun b => WH h g v b ∨ w.heap.size ≤ b) hR hl fun b hb e => e.resolve_right (by omega)
  refine LRep.weak hR (LRep.mod hR hsz h1 (k.mod.mono fun _ _ e => .inl e)) fun b _ e => ?_
  rcases e with (e | e) | e
  · exact .inl (.inl (.inl e))
  · rcases k.st b e.symm with e1 | e1
    · exact .inl (.inl (.inr e1.symm))
    · exact .inr e1
  · exact .inl (.inr e)
theorem Ki.rep {α : Type} {R : RepT α} {sz : Nat} {w w' : World} {base h g : Nat} {p : Po} {v v' : Value} {t : WT} {cs : List Value} {x : α} (k : Ki w base p h g v w' v' t) (hR : RepOk R sz) (hl : R w (WH h g v) cs x) : R w' (WH h g v') cs x := by
  have h1 := hR.weak (S' := fun b => WH h g v b ∨ w.heap.size ≤ b) hl fun b hb e => e.resolve_right (by omega)
  refine hR.weak (hR.mod h1 (k.mod.mono fun _ _ e => .inl e)) fun b _ e => ?_
  rcases e with (e | e) | e
  · exact .inl (.inl (.inl e))
  · rcases k.st b e.symm with e1 | e1
    · exact .inl (.inl (.inr e1.symm))
    · exact .inr e1
  · exact .inl (.inr e)
/-- What is done elsewhere, in new blocks. -/
theorem Ki.low {S : Nat → Prop} {w w1 w2 : World} {base h g : Nat} {p : Po} {v v' : Value} {t : WT} (k : Ki w base p h g v w1 v' t) (m : Mod S w1 w2) (hS : ∀ b, S b → w.heap.size ≤ b ∧ ¬ WH h g v' b) (hw : base ≤ w.heap.size) : Ki w base p h g v w2 v' t := by
  refine ⟨⟨m.blk k.wi.blk fun e => (hS _ e).2 (.inr rfl), wr_mod k.wi.wr m (fun e => (hS _ e).2 (.inl (.inl rfl))) (fun b hb e => (hS _ e).2 (.inl (.inr hb.symm))), k.wi.ne, k.wi.off, k.wi.bh, k.wi.bg, k.wi.cx.mod m fun b _ e => Nat.le_trans hw (hS b e).1⟩, Mod.trans k.mod m fun b hb e => ?_, k.st⟩
  have := (hS b e).1
  omega
theorem Cx.kind {w : World} {base : Nat} {p : Po} {k : Int} (c : Cx w base p) (h0 : 0 ≤ k) (h5 : k < 5) : w.cell? ((⟨0, 0, none⟩ : Addr).add (k.toNat * 1)) = some (zi (kindNo k)) := by
  have := c.tbl k h0 h5
  rw [Nat.mul_one]
  have e : ((⟨0, 0, none⟩ : Addr).add k.toNat) = ⟨0, k.toNat, none⟩ := by
    simp [Addr.add]
    omega
  rw [e]
  exact this
theorem incN {i n : Nat} (h : i < n) (hn : n ≤ 140737488355328) : Value.int .i64 (IntKind.i64.wrap ((i : Int) + 1)) = .int .i64 ((i + 1 : Nat) : Int) := by
  rw [wrap_i64 (by omega) (by omega)]
  rfl
def okTy (x : Ty) : Prop := 0 ≤ x.kind ∧ x.kind < 5 ∧ (x.kind = 4 ∨ x.name = [])
theorem okTy_of {l : List Ent} {x : Ty} (h : (tyT l).ok x) : okTy x := by
  obtain ⟨_, ⟨hk, _⟩, hn⟩ := h
  refine ⟨hk.1, hk.2, ?_⟩
  by_cases h4 : x.kind = 4
  · exact .inl h4
  · right
    dsimp only at hn
    rw [if_neg h4] at hn
    exact hn
theorem nil_str (s : List UInt8) : decide ((⟨s.toArray⟩ : ByteArray) = ⟨#[]⟩) = decide (s = []) := Base.same_iff s []
theorem kind_ok (p : Po) (base : Nat) (h g : Nat) (v : Value) (t : WT) (cs : List Value) (x : Ty) (w : World) (c : Wi w base p h g v t) (hO : OkPool p.l) (hx : tyR w (WH h g v) cs x) (hm : t.1.length + cTy x ≤ 1000000000) :
    Calls Tryz.prog 114 #[.pointer (some ⟨h, 0, none⟩), .agg cs.toArray] w fun e w' => e = .returned (.tuple #[]) ∧ ∃ v' t', Ki w base p h g v w' v' t' ∧ Wri (tyT p.l) (cTy x) t x t' := by
  obtain rfl := hx
  unfold cTy at hm
  refine enter ok Tryz.func114 rfl rfl rfl ?_
  refine seq_cut (σ := Unit) (fun _ => [(0, .pointer (some ⟨h, 0, none⟩)), (3, .pointer (some ⟨w.heap.size, 0, none⟩))]) (fun _ w' => New w w' ∧ w'.heap[w.heap.size]? = some (.cells #[zi x.kind, strV x.name] 101 (0, 0))) ?_ ?_
  rotate_left
  · intro K hK
    exact hK () _ _ ⟨rfl, rfl, trivial⟩ ⟨New.alloc w _, heap_alloc_new w (.cells #[zi x.kind, strV x.name] 101)⟩
  rintro _ w1 fr1 ⟨n1, hX⟩
  have c1 := c.new n1
  have hXl : w.heap.size < w1.heap.size := (Array.getElem?_eq_some_iff.1 hX).1
  have hXn := c.hi (Nat.le_refl w.heap.size)
  refine seq_cut (σ := Bool) (fun _ => [(0, .pointer (some ⟨h, 0, none⟩)), (3, .pointer (some ⟨w.heap.size, 0, none⟩))]) (fun b w' => Ki w1 base p h g v w' v (t.1, t.2 || !b) ∧ (b = true ↔ okTy x)) ?_ ?_
  rotate_left
  · intro K hK
    have fin : ∀ b : Bool, (b = true ↔ okTy x) → ∀ K' : Value → World → Prop, (∀ w', Ki w1 base p h g v w' v (t.1, t.2 || !b) → K' (.tuple #[]) w') → callQ Tryz.prog 54 [.pointer (some ⟨h, 0, none⟩), .bool b] w1 K' := fun b hb K' hK' => by
      refine call_ (must_ok base p h g v t b w1 c1) ?_
      rintro e w2 ⟨rfl, k2⟩
      exact ⟨_, rfl, hK' w2 k2⟩
    refine Exists.intro x.kind (And.intro (cellB hX rfl) ?_)
    refine if_p (fun h0 => ?_) (fun h0 => ?_)
    · replace h0 : (0 : Int) ≤ x.kind := h0
      refine Exists.intro x.kind (And.intro (cellB hX rfl) ?_)
      refine if_p (fun h5 => ?_) (fun h5 => ?_)
      · replace h5 : x.kind < 5 := h5
        refine Exists.intro x.kind (And.intro (cellB hX rfl) ?_)
        refine if_p (fun h4 => ?_) (fun h4 => ?_)
        · replace h4 : x.kind = 4 := h4
          exact fin true ⟨fun _ => ⟨h0, h5, .inl h4⟩, fun _ => rfl⟩ _ fun w' k' => hK true _ _ ⟨rfl, rfl, trivial⟩ ⟨k', ⟨fun _ => ⟨h0, h5, .inl h4⟩, fun _ => rfl⟩⟩
        · replace h4 : ¬ x.kind = 4 := h4
          refine Exists.intro (⟨x.name.toArray⟩ : ByteArray) (And.intro (cellB hX rfl) ?_)
          have hb : decide ((⟨x.name.toArray⟩ : ByteArray) = ⟨#[]⟩) = true ↔ okTy x := by
            rw [nil_str, decide_eq_true_eq]
            exact ⟨fun e => ⟨h0, h5, .inr e⟩, fun e => e.2.2.resolve_left h4⟩
          exact fin _ hb _ fun w' k' => hK _ _ _ ⟨rfl, rfl, trivial⟩ ⟨k', hb⟩
      · replace h5 : ¬ x.kind < 5 := h5
        have hb : false = true ↔ okTy x := ⟨fun e => (by cases e), fun e => absurd e.2.1 h5⟩
        exact fin false hb _ fun w' k' => hK false _ _ ⟨rfl, rfl, trivial⟩ ⟨k', hb⟩
    · replace h0 : ¬ (0 : Int) ≤ x.kind := h0
      have hb : false = true ↔ okTy x := ⟨fun e => (by cases e), fun e => absurd e.1 h0⟩
      exact fin false hb _ fun w' k' => hK false _ _ ⟨rfl, rfl, trivial⟩ ⟨k', hb⟩
  rintro b w2 fr2 ⟨k2, hb⟩
  have hX2 := k2.blk hX hXn
  refine seq_cut (σ := Unit) (fun _ => [(0, .pointer (some ⟨h, 0, none⟩)), (3, .pointer (some ⟨w.heap.size, 0, none⟩))]) (fun _ w' => w' = w2 ∧ (t.2 || !b) = false) ?_ ?_
  rotate_left
  · intro K hK
    refine Exists.intro (t.2 || !b) (And.intro (cellB k2.wi.blk rfl) ?_)
    refine if_ (fun hbad => ?_) (fun hbad => ?_)
    · refine ⟨rfl, v, _, ((Ki.refl c).new n1).then k2, ?_⟩
      exact Wri.pre (b := b) (Wri.bad hbad _ _) fun o => hb.2 (okTy_of o)
    · exact hK () _ _ ⟨rfl, rfl, trivial⟩ ⟨rfl, hbad⟩
  rintro _ wy fry ⟨hwy, hgood⟩
  obtain rfl := hwy.symm
  have hP : okTy x := hb.1 (by
    rw [Bool.or_eq_false_iff] at hgood
    have := hgood.2
    revert this
    cases b <;> decide)
  obtain ⟨h0, h5, hn⟩ := hP
  have hg1 := kindNo_good h0 h5
  refine seq_cut (σ := Value) (fun _ => [(0, .pointer (some ⟨h, 0, none⟩)), (3, .pointer (some ⟨w.heap.size, 0, none⟩))]) (fun v' w' => Ki w2 base p h g v w' v' (noteU (t.1, t.2 || !b) 1 [kindNo x.kind]) ∧ w'.heap[w.heap.size]? = some (.cells #[zi x.kind, strV x.name] 101 (0, 0))) ?_ ?_
  rotate_left
  · intro K hK
    refine draw_ (w := w2) ok (.q 0 (.q 1 (.q 2 (.q 3 (.q 4 (.q 5 (.q 6 (.q 7 (.e 8 (.e 9 .done)))))))))) [9] (New w2) (by kernel_rfl) (by kernel_rfl) (by kernel_rfl) (by kernel_rfl) (by kernel_rfl) (New.drew _) ?_
    refine Exists.intro (some ⟨g, 0, none⟩) (And.intro (fun w'' hw => cellB (hw.blk k2.wi.blk) rfl) ?_)
    refine Exists.intro x.kind (And.intro (fun w'' hw => cellB (hw.blk hX2) rfl) ?_)
    refine And.intro h0 (And.intro h5 ?_)
    refine Exists.intro (kindNo x.kind) (And.intro (fun w'' hw => hw.cell (k2.wi.cx.kind h0 h5)) ?_)
    have nd := New.drew w2
    refine eff_build (xs := [zi (kindNo x.kind)]) rfl rfl rfl rfl rfl rfl rfl rfl rfl ?_
    refine Exists.intro (New w2) ?_
    refine And.intro (fun _ h => h) ?_
    refine And.intro (nd.trans (New.alloc _ _)) ?_
    refine call_ (WUn base p h g v (t.1, t.2 || !b) 1 (kindNo x.kind) w2.drew (k2.wi.new nd) (by dsimp only; omega)) ?_
    rintro e w3 ⟨rfl, v3, k3⟩
    refine ⟨_, rfl, ?_⟩
    have kk := ((Ki.refl k2.wi).new nd).then k3
    rw [← noteU_good hg1] at kk
    exact hK v3 _ _ ⟨rfl, rfl, trivial⟩ ⟨kk, kk.blk hX2 (k2.hid hXl hXn)⟩
  rintro v3 w3 fr3 ⟨k3, hX3⟩
  have kk3 := (((Ki.refl c).new n1).then k2).then k3
  have w1k : Wri kindT 1 (t.1, t.2 || !b) x.kind (noteU (t.1, t.2 || !b) 1 [kindNo x.kind]) := Wri.by (p := true) Wri.n1 (by simp) (by simp only [true_iff]; exact ⟨h0, h5⟩)
  have hl3 := w1k.1
  have pre : ∀ {t' : WT} {d : Nat}, d ≤ 3 → Wri (dseqT kindT fun k => if k = 4 then clsT p.l else nilT) d (t.1, t.2 || !b) (x.kind, x.name) t' → Wri (tyT p.l) (cTy x) t x t' := fun hd q =>
    Wri.pre (b := b) (Wri.by_ (Wri.le q hd)) fun o => hb.2 (okTy_of o)
  refine Exists.intro x.kind (And.intro (cellB hX3 rfl) ?_)
  refine if_p (fun h4 => ?_) (fun h4 => ?_)
  · replace h4 : x.kind = 4 := h4
    refine Exists.intro (⟨x.name.toArray⟩ : ByteArray) (And.intro (cellB hX3 rfl) ?_)
    refine call_ (wclass_ok p base h g v3 _ x.name w3 k3.wi hO (by dsimp only at hl3; omega)) ?_
    rintro e w4 ⟨rfl, v4, t4, k4, wr4⟩
    refine ⟨_, rfl, ?_⟩
    exact ⟨rfl, v4, t4, kk3.then k4, pre (d := 1 + 2) (by omega) (Wri.dseq w1k (by rw [if_pos h4]; exact wr4))⟩
  · replace h4 : ¬ x.kind = 4 := h4
    exact ⟨rfl, v3, _, kk3, pre (d := 1 + 0) (by omega) (Wri.dseq w1k (by rw [if_neg h4]; exact Wri.nil (hn.resolve_left h4)))⟩
theorem list_ty (p : Po) (base : Nat) (h g : Nat) (v : Value) (t : WT) (vl : Value) (xs : List Ty)   (w : World) (c : Wi w base p h g v t) (hO : OkPool p.l) (hl : LRep tyR w (WH h g v) vl xs)   (hm : t.1.length + (2 + csum cTy xs) ≤ 1000000000) :
    Calls Tryz.prog 112 #[.pointer (some ⟨h, 0, none⟩), vl, zi 64, .func (.func 114) #[.pointer (some ⟨h, 0, none⟩)] #[]] w fun e w' => e = .returned (.tuple #[]) ∧ ∃ v' t', Ki w base p h g v w' v' t' ∧ Wri (stkT p.l) (2 + csum cTy xs) t xs t' := by
  obtain ⟨Al, cl, rfl, h43, _⟩ := hl.get tyOk (by decide)
  refine enter ok Tryz.func112 rfl rfl rfl ?_
  refine seq_cut (σ := Unit) (fun _ => [(0, .pointer (some ⟨h, 0, none⟩)), (1, .slice Al xs.length cl), (3, .func (.func 114) #[.pointer (some ⟨h, 0, none⟩)] #[])]) (fun _ w' => Ki w base p h g v w' v (t.1, t.2 || !decide (xs.length ≤ 64))) ?_ ?_
  rotate_left
  · intro K hK
    refine call_ (must_ok base p h g v t (decide ((xs.length : Int) ≤ 64)) w c) ?_
    rintro e w1 ⟨rfl, k1⟩
    refine ⟨_, rfl, ?_⟩
    have e1 : decide ((xs.length : Int) ≤ 64) = decide (xs.length ≤ 64) := decide_eq_decide.2 (by omega)
    rw [e1] at k1
    exact hK () _ _ ⟨rfl, rfl, rfl, trivial⟩ k1
  rintro _ w1 fr1 k1
  refine seq_cut (σ := Value × WT) (fun _ => [(0, .pointer (some ⟨h, 0, none⟩)), (1, .slice Al xs.length cl), (3, .func (.func 114) #[.pointer (some ⟨h, 0, none⟩)] #[])]) (fun s w' => Ki w base p h g v w' s.1 s.2 ∧ Wri n2 2 (t.1, t.2 || !decide (xs.length ≤ 64)) (xs.length : Int) s.2) ?_ ?_
  rotate_left
  · intro K hK
    refine Exists.intro (t.2 || !decide (xs.length ≤ 64)) (And.intro (cellB k1.wi.blk rfl) ?_)
    cases hbad : (t.2 || !decide (xs.length ≤ 64)) with
    | true =>
      rw [hbad] at k1 hK
      exact hK (v, (t.1, true)) _ _ ⟨rfl, rfl, rfl, trivial⟩ ⟨k1, Wri.bad rfl _ _⟩
    | false =>
      rw [hbad] at k1 hK
      refine call_ (two1_ok base p h g v (t.1, false) [(xs.length : Int)] 1 w1 k1.wi rfl (by simp; omega)) ?_
      rintro e w2 ⟨rfl, v2, k2⟩
      refine ⟨_, rfl, ?_⟩
      exact hK (v2, _) _ _ ⟨rfl, rfl, rfl, trivial⟩ ⟨k1.then k2, Wri.n2⟩
  rintro ⟨v2, t2⟩ w2 fr2 ⟨k2, wr2⟩
  dsimp only at k2 wr2
  refine seq_cut (σ := Unit) (fun _ => [(0, .pointer (some ⟨h, 0, none⟩)), (3, .func (.func 114) #[.pointer (some ⟨h, 0, none⟩)] #[]), (26, .slice Al xs.length cl), (27, zi (xs.length : Int)), (28, zi 0)]) (fun _ w' => w' = w2) ?_ ?_
  rotate_left
  · intro K hK
    exact hK () _ _ ⟨rfl, rfl, rfl, rfl, rfl, trivial⟩ rfl
  rintro _ wy fry hwy
  obtain rfl := hwy.symm
  refine den_loop (σ := Nat × Value × WT) (fun s => [(0, .pointer (some ⟨h, 0, none⟩)), (3, .func (.func 114) #[.pointer (some ⟨h, 0, none⟩)] #[]), (26, .slice Al xs.length cl), (27, zi (xs.length : Int)), (28, zi (s.1 : Int))])
    (fun m s wl => m + s.1 = xs.length ∧ Ki w base p h g v wl s.2.1 s.2.2 ∧ WLst (tyT p.l) 64 cTy t xs s.1 s.2.2) xs.length (0, v2, t2) ⟨rfl, rfl, rfl, rfl, rfl, trivial⟩ ⟨rfl, k2, WLst.start (by decide) wr2⟩ ?_
  rintro m ⟨i, v3, t3⟩ wl frl ⟨hfuel, kl, hw⟩
  dsimp only at hfuel kl hw
  refine if_p (fun hlt => ?_) (fun hge => ?_)
  · replace hlt : (i : Int) < (xs.length : Int) := hlt
    have hi : i < xs.length := by omega
    obtain ⟨m, rfl⟩ : ∃ m', m = m' + 1 := ⟨m - 1, by omega⟩
    have inc := incN hi h43
    obtain ⟨Al', cl', he, _, gx⟩ := (kl.lrep tyOk (by decide) hl).get tyOk (by decide)
    cases he
    obtain ⟨a, cs, ea, hx, hc⟩ := gx i hi
    have hcs : csum cTy (xs.take i) + cTy xs[i] ≤ csum cTy xs := by
      have h1 := csum_le cTy xs (i + 1)
      rw [List.take_succ_eq_append_getElem hi, csum_snoc] at h1
      exact h1
    have hw1 := hw.1
    have hmem : xs[i] ∈ xs := List.getElem_mem hi
    obtain ⟨y, hy⟩ : ∃ y, y = xs[i] := ⟨_, rfl⟩
    rw [← hy] at hx hcs hmem
    have hx0 := hx
    obtain rfl := hx
    refine And.intro (by omega) (And.intro hlt ?_)
    refine some_at ea ?_
    refine loadN_row (vs := [zi y.kind, strV y.name]) (fun j u hu => by rw [Int.toNat_natCast]; exact hc j u hu) rfl ?_
    refine And.intro rfl ?_
    refine storeNew (vs := [zi y.kind, strV y.name]) (arr := #[zi 0, .string ⟨#[]⟩]) rfl (tyOk.one hx0) ?_
    intro w5 hb5 n5 s5
    have k5 := kl.new n5
    refine Exists.intro t3.2 (And.intro (cellB k5.wi.blk rfl) ?_)
    refine if_ (fun hbad => ?_) (fun hbad => ?_)
    · exact ⟨rfl, v3, t3, k5, hw.stop hbad⟩
    refine skip_ (thenF_ ?_)
    refine loadN_row (vs := [zi y.kind, strV y.name]) (rowB hb5) rfl ?_
    refine call_ (kind_ok p base h g v3 t3 [zi y.kind, strV y.name] y w5 k5.wi hO (tyOk.mod hx0 n5.mod) (by omega)) ?_
    rintro e w6 ⟨rfl, v6, t6, k6, wr6⟩
    refine ⟨_, rfl, ?_⟩
    exact ⟨m, (i + 1, v6, t6), by omega, ⟨rfl, rfl, rfl, rfl, inc, trivial⟩, by dsimp only; omega, k5.then k6, hw.step hi (by rw [← hy]; exact wr6)⟩
  · replace hge : ¬ (i : Int) < (xs.length : Int) := hge
    obtain rfl : i = xs.length := by omega
    exact ⟨rfl, v3, t3, kl, hw.done⟩

theorem tyEq (x y : Ty) : decide (x = y) = (decide (x.kind = y.kind) && (decide ((⟨x.name.toArray⟩ : ByteArray) = (⟨y.name.toArray⟩ : ByteArray)) && true)) := by
  rw [Base.same_iff, Bool.and_true, ← Bool.decide_and]
  refine decide_eq_decide.2 ⟨fun h => by rw [h]; exact ⟨rfl, rfl⟩, fun h => ?_⟩
  cases x; cases y
  simp only at h
  rw [h.1, h.2]
theorem ty_eql {o : Oper} {x y : Operand} {u : TypeId} {fr : Fr} {a b : Ty} {w : World} {K : Fr → World → Prop} (ho : o.op = .binOp .eql 101 x y u) (hx : ev fr x = .agg #[zi a.kind, strV a.name]) (hy : ev fr y = .agg #[zi b.kind, strV b.name]) (k : K (putF fr o.dst (.bool (decide (a = b)))) w) : raw Tryz.prog o fr w K :=
  raw_value (agg_cmp ok ho rfl rfl (by kernel_rfl) (by kernel_rfl) hx hy rfl (decide (a = b)) (.inl ⟨rfl, tyEq a b⟩) w) k
theorem locals_ok (p : Po) (base : Nat) (h g : Nat) (v : Value) (t : WT) (vl : Value) (xs : List Ty) (w : World) (c : Wi w base p h g v t) (hl : LRep tyR w (WH h g v) vl xs) (hn : xs.length ≤ 1000000000) :
    Calls Tryz.prog 113 #[.pointer (some ⟨h, 0, none⟩), vl] w fun e w' => ∃ u b, e = .returned u ∧ LRep tyR w' (WH h g v) u (locOut false xs) ∧ Ki w base p h g v w' v (t.1, t.2 || !b) ∧ (b = true ↔ xs.length ≤ 64 ∧ locOk false xs) := by
  obtain ⟨Al, cl, rfl, h43, _⟩ := hl.get tyOk (by decide)
  refine enter ok Tryz.func113 rfl rfl rfl ?_
  refine seq_assign ?_
  refine seq_cut (σ := Unit) (fun _ => [(0, .pointer (some ⟨h, 0, none⟩)), (1, .slice Al xs.length cl)]) (fun _ w' => Ki w base p h g v w' v (t.1, t.2 || !decide (xs.length ≤ 64))) ?_ ?_
  rotate_left
  · intro K hK
    refine call_ (must_ok base p h g v t (decide ((xs.length : Int) ≤ 64)) w c) ?_
    rintro e w1 ⟨rfl, k1⟩
    refine ⟨_, rfl, ?_⟩
    have e1 : decide ((xs.length : Int) ≤ 64) = decide (xs.length ≤ 64) := decide_eq_decide.2 (by omega)
    rw [e1] at k1
    exact hK () _ _ ⟨rfl, rfl, trivial⟩ k1
  rintro _ w1 fr1 k1
  refine seq_assign ?_
  have hbase := c.bw
  have hlw := c.lt
  have own0 : ∀ w' : World, w'.ownsRow w.heap.size 101 2 (.slice none 0 0) 0 [] := fun _ => ⟨rfl, .inl ⟨rfl, rfl⟩⟩
  refine seq_cut (σ := (Option Addr × Nat) × List Ty) (fun s => [(5, .slice s.1.1 s.2.length s.1.2)]) (fun s w' => ∃ b, Ki w base p h g v w' v (t.1, t.2 || !b) ∧ s.2 = locOut false xs ∧ (b = true ↔ xs.length ≤ 64 ∧ locOk false xs) ∧ w'.ownsRow w.heap.size 101 2 (.slice s.1.1 s.2.length s.1.2) s.2.length (cellsOf (s.2.map fun y => ([zi y.kind, strV y.name], y)))) ?_ ?_
  rotate_left
  · intro K hK
    refine seq_assign ?_
    refine den_loop (σ := Nat × (Option Addr × Nat) × List Ty × Bool) (fun s => [(0, .pointer (some ⟨h, 0, none⟩)), (1, .slice Al xs.length cl), (5, .slice s.2.1.1 s.2.2.1.length s.2.1.2), (6, zi (s.1 : Int))])
      (fun m s wl => xs.length ≤ m + s.1 ∧ s.1 ≤ xs.length + 1 ∧ Ki w base p h g v wl v (t.1, t.2 || !s.2.2.2) ∧ s.2.2.1 ++ locOut false (xs.drop s.1) = locOut false xs ∧ s.2.2.1.length ≤ s.1 ∧ ((s.2.2.2 = true ∧ locOk false (xs.drop s.1)) ↔ (xs.length ≤ 64 ∧ locOk false xs)) ∧ wl.ownsRow w.heap.size 101 2 (.slice s.2.1.1 s.2.2.1.length s.2.1.2) s.2.2.1.length (cellsOf (s.2.2.1.map fun y => ([zi y.kind, strV y.name], y)))) xs.length
      (0, (none, 0), [], decide (xs.length ≤ 64)) ⟨rfl, rfl, rfl, rfl, trivial⟩ ⟨by dsimp only; omega, by dsimp only; omega, k1, rfl, Nat.le_refl _, by simp, own0 _⟩ ?_
    rintro m ⟨i, ⟨Ao, co⟩, os, b⟩ wl frl ⟨hfuel, hi1, kl, hos, hol, hb, own⟩
    dsimp only at hfuel hi1 kl hos hol hb own
    refine seq_cut (σ := Unit) (fun _ => [(0, .pointer (some ⟨h, 0, none⟩)), (1, .slice Al xs.length cl), (5, .slice Ao os.length co), (6, zi (i : Int))]) (fun _ w' => w' = wl ∧ i < xs.length) ?_ ?_
    rotate_left
    · intro K2 hK2
      refine if_p (fun hlt => ?_) (fun hge => ?_)
      · replace hlt : (i : Int) < (xs.length : Int) := hlt
        exact hK2 () _ _ ⟨rfl, rfl, rfl, rfl, trivial⟩ ⟨rfl, by omega⟩
      · replace hge : ¬ (i : Int) < (xs.length : Int) := hge
        have hd : xs.drop i = [] := List.drop_eq_nil_iff.2 (by omega)
        rw [hd] at hos hb
        refine hK ((Ao, co), os) _ _ ⟨rfl, trivial⟩ ⟨b, kl, ?_, ?_, own⟩
        · rw [← hos]
          exact (List.append_nil os).symm
        · rw [← hb]
          exact ⟨fun e => ⟨e, trivial⟩, fun e => e.1⟩
    rintro _ wy fry ⟨hwy, hi⟩
    obtain rfl := hwy.symm
    have hlt : (i : Int) < (xs.length : Int) := by omega
    obtain ⟨m, rfl⟩ : ∃ m', m = m' + 1 := ⟨m - 1, by omega⟩
    have ed : xs.drop i = xs[i] :: xs.drop (i + 1) := List.drop_eq_getElem_cons hi
    obtain ⟨_, _, he, _, gx⟩ := (kl.lrep tyOk (by decide) hl).get tyOk (by decide)
    cases he
    obtain ⟨a, cs, ea, hx, hc⟩ := gx i hi
    generalize hy : xs[i] = y at hx ed
    obtain rfl := hx
    rw [ed] at hos hb
    -- one more
    refine seq_cut (σ := Nat × (Option Addr × Nat) × Bool) (fun s => [(0, .pointer (some ⟨h, 0, none⟩)), (1, .slice Al xs.length cl), (5, .slice s.2.1.1 (os.length + 1) s.2.1.2), (6, zi (s.1 : Int))]) (fun s w' => Ki w base p h g v w' v (t.1, t.2 || !s.2.2) ∧ w'.ownsRow w.heap.size 101 2 (.slice s.2.1.1 (os.length + 1) s.2.1.2) (os.length + 1) (cellsOf (os.map fun y => ([zi y.kind, strV y.name], y)) ++ [zi y.kind, strV y.name]) ∧ i ≤ s.1 ∧ s.1 ≤ xs.length ∧ locOut (decide (y.kind = 2)) (xs.drop (i + 1)) = locOut false (xs.drop (s.1 + 1)) ∧ ((b = true ∧ locOk (decide (y.kind = 2)) (xs.drop (i + 1))) ↔ (s.2.2 = true ∧ locOk false (xs.drop (s.1 + 1))))) ?_ ?_
    · rintro ⟨j, ⟨A2, c2⟩, b2⟩ w2 fr2 ⟨k2, own2, hij, hjl, ho2, hb2⟩
      dsimp only at k2 own2 hij hjl ho2 hb2
      have hlen : (os ++ [y]).length = os.length + 1 := by simp
      have hinc : Value.int .i64 (IntKind.i64.wrap ((j : Int) + 1)) = .int .i64 ((j + 1 : Nat) : Int) := by
        rw [wrap_i64 (by omega) (by omega)]
        rfl
      refine ⟨m, (j + 1, (A2, c2), os ++ [y], b2), by omega, ⟨rfl, rfl, (show Value.slice A2 (os.length + 1) c2 = .slice A2 (os ++ [y]).length c2 by rw [hlen]), hinc, trivial⟩, by dsimp only; omega, by dsimp only; omega, k2, ?_, by rw [hlen]; dsimp only; omega, ?_, ?_⟩
      · dsimp only
        rw [← ho2, List.append_assoc]
        exact hos
      · dsimp only
        rw [← hb2]
        exact hb
      · dsimp only
        rw [hlen, List.map_append, List.map_cons, List.map_nil, cellsOf_snoc]
        exact own2
    intro K3 hK3
    refine block_ ?_
    refine seq_cut (σ := Option Addr × Nat) (fun s => [(0, .pointer (some ⟨h, 0, none⟩)), (1, .slice Al xs.length cl), (5, .slice s.1 (os.length + 1) s.2), (6, zi (i : Int))]) (fun s w' => Ki w base p h g v w' v (t.1, t.2 || !b) ∧ w'.ownsRow w.heap.size 101 2 (.slice s.1 (os.length + 1) s.2) (os.length + 1) (cellsOf (os.map fun y => ([zi y.kind, strV y.name], y)) ++ [zi y.kind, strV y.name])) ?_ ?_
    rotate_left
    · intro K4 hK4
      refine And.intro (by omega) (And.intro hlt ?_)
      refine some_at ea ?_
      refine loadN_row (vs := [zi y.kind, strV y.name]) (fun j u hu => by rw [Int.toNat_natCast]; exact hc j u hu) rfl ?_
      have n6 := New.alloc wl (.cells [zi y.kind, strV y.name].toArray 101)
      have hwl := kl.mod.size
      refine append2_ ok rfl rfl rfl rfl (own_new n6 own) rfl rfl (row_alloc wl [zi y.kind, strV y.name] _ _) rfl (tyOk.one (w := wl) (S := fun _ => False) (x := y) rfl) (by decide) rfl (by show (os.length + 1) * 24 ≤ _; omega) (by omega) (Nat.le_trans hwl n6.size) ?_
      intro A7 c7 w7 own7 mod7 st7
      have k6 := kl.new n6
      refine hK4 (A7, c7) _ _ ⟨rfl, rfl, rfl, rfl, trivial⟩ ⟨k6.low mod7 (fun q hq => ?_) hbase, own7⟩
      have h1 := (own.lt _ hq.symm).1
      exact ⟨h1, c.hi h1⟩
    rintro ⟨A2, c2⟩ w2 fr2 ⟨k2, own2⟩
    dsimp only at own2
    obtain ⟨_, _, he, _, gx2⟩ := (k2.lrep tyOk (by decide) hl).get tyOk (by decide)
    cases he
    obtain ⟨a2, cs2, ea2, hx2, hc2⟩ := gx2 i hi
    rw [hy] at hx2
    obtain rfl := hx2
    refine And.intro (by omega) (And.intro hlt ?_)
    refine some_at ea2 ?_
    refine Exists.intro y.kind (And.intro (by have := hc2 0 _ rfl; rw [add_zero_] at this; rw [Int.toNat_natCast]; exact this) ?_)
    refine if_p (fun hk => ?_) (fun hk => ?_)
    · replace hk : y.kind = 2 := hk
      rw [decide_eq_true hk] at hK3
      have hinc : IntKind.i64.wrap ((i : Int) + 1) = ((i + 1 : Nat) : Int) := by
        rw [wrap_i64 (by omega) (by omega)]
        rfl
      refine seq_cut (σ := Unit) (fun _ => [(0, .pointer (some ⟨h, 0, none⟩)), (1, .slice Al xs.length cl), (5, .slice A2 (os.length + 1) c2), (6, zi ((i + 1 : Nat) : Int))]) (fun _ w' => w' = w2) ?_ ?_
      rotate_left
      · intro K4 hK4
        exact hK4 () _ _ ⟨rfl, rfl, rfl, (show zi (IntKind.i64.wrap ((i : Int) + 1)) = _ by rw [hinc]), trivial⟩ rfl
      rintro _ wz frz hwz
      obtain rfl := hwz.symm
      refine if_p (fun hl2 => ?_) (fun hl2 => ?_)
      · replace hl2 : ((i + 1 : Nat) : Int) < (xs.length : Int) := hl2
        have hi2 : i + 1 < xs.length := by omega
        have ed2 : xs.drop (i + 1) = xs[i + 1] :: xs.drop (i + 1 + 1) := List.drop_eq_getElem_cons hi2
        obtain ⟨a3, cs3, ea3, hx3, hc3⟩ := gx2 (i + 1) hi2
        generalize xs[i + 1] = z at hx3 ed2
        obtain rfl := hx3
        refine And.intro (by omega) (And.intro hl2 ?_)
        refine some_at ea3 ?_
        refine loadN_row (vs := [zi z.kind, strV z.name]) (fun j u hu => by rw [Int.toNat_natCast]; exact hc3 j u hu) rfl ?_
        refine ty_eql (a := z) (b := ty0) rfl rfl rfl ?_
        refine call_ (must_ok base p h g v _ (decide (z = ty0)) w2 k2.wi) ?_
        rintro e w3 ⟨rfl, k3⟩
        refine ⟨_, rfl, ?_⟩
        have own3 := own_mod k3.mod own2 (fun q hq e => c.hi (own2.lt q hq).1 e)
        have k23 := k2.then k3
        dsimp only at k23
        have eb : ((t.2 || !b) || !decide (z = ty0)) = (t.2 || !(b && decide (z = ty0))) := by cases t.2 <;> cases b <;> cases decide (z = ty0) <;> rfl
        rw [eb] at k23
        refine hK3 (i + 1, (A2, c2), b && decide (z = ty0)) _ _ ⟨rfl, rfl, rfl, rfl, trivial⟩ ⟨k23, own3, by dsimp only; omega, by dsimp only; omega, ?_, ?_⟩
        · dsimp only
          rw [ed2]
          rfl
        · dsimp only
          rw [ed2]
          show (b = true ∧ (z = ty0 ∧ locOk false (xs.drop (i + 1 + 1)))) ↔ _
          rw [Bool.and_eq_true, decide_eq_true_eq, and_assoc]
      · replace hl2 : ¬ ((i + 1 : Nat) : Int) < (xs.length : Int) := hl2
        have hd2 : xs.drop (i + 1) = [] := List.drop_eq_nil_iff.2 (by omega)
        refine call_ (must_ok base p h g v _ false w2 k2.wi) ?_
        rintro e w3 ⟨rfl, k3⟩
        refine ⟨_, rfl, ?_⟩
        have own3 := own_mod k3.mod own2 (fun q hq e => c.hi (own2.lt q hq).1 e)
        have k23 := k2.then k3
        dsimp only at k23
        have eb : ((t.2 || !b) || !false) = (t.2 || !false) := by cases t.2 <;> cases b <;> rfl
        rw [eb] at k23
        refine hK3 (i + 1, (A2, c2), false) _ _ ⟨rfl, rfl, rfl, rfl, trivial⟩ ⟨k23, own3, by dsimp only; omega, by dsimp only; omega, ?_, ?_⟩
        · dsimp only
          rw [hd2, List.drop_eq_nil_iff.2 (by omega : xs.length ≤ i + 1 + 1)]
          rfl
        · dsimp only
          rw [hd2]
          exact ⟨fun e => e.2.elim, fun e => by cases e.1⟩
    · replace hk : ¬ y.kind = 2 := hk
      rw [decide_eq_false hk] at hK3
      exact hK3 (i, (A2, c2), b) _ _ ⟨rfl, rfl, rfl, rfl, trivial⟩ ⟨k2, own2, Nat.le_refl _, by dsimp only; omega, rfl, Iff.rfl⟩
  rintro ⟨⟨Ao, co⟩, os⟩ w2 fr2 ⟨b, k2, hos, hb, own2⟩
  dsimp only at hos own2
  subst hos
  refine ⟨_, b, rfl, ?_, k2, hb⟩
  have hlen := locOut_len false xs
  obtain ⟨_, _, he, hcap1, hcap2, row, hlow⟩ := own_slice own2
  cases he
  refine ⟨Ao, co, (locOut false xs).map fun y => ([zi y.kind, strV y.name], y), rfl, (by rw [List.map_map]; exact List.map_id _), hcap1, hcap2, by omega, row, fun a ha hn => ?_, fun q hq => ?_⟩
  · have h1 := own2.lt a.block (by subst ha; rfl)
    exact ⟨h1.2, c.hi h1.1⟩
  · obtain ⟨y, _, rfl⟩ := List.mem_map.1 hq
    rfl

end Go.Proofs.YtdcaafldnbcdkaaGreatDoor.Class

/-! ### KWrite3 -/
namespace Go.Proofs.YtdcaafldnbcdkaaGreatDoor.Class
open Go Go.Proofs.YtdcaafldnbcdkaaGreatDoor Go.Proofs.YtdcaafldnbcdkaaGreatDoor.Eng Go.Proofs Go.Proofs.YtdcaafldnbcdkaaGreatDoor.Word Go.Proofs.YtdcaafldnbcdkaaGreatDoor.Fmt
open Go.Proofs.YtdcaafldnbcdkaaGreatDoor.Pool (Ent at_ poolF strV entC entV EntOk Pl OkPool both own_low tagAt)
set_option maxRecDepth 10000

theorem fz0 {w : World} {b : Nat} {arr : Array Value} {ty : TypeId} (h : w.heap[b]? = some (.cells arr ty (0, 0))) : w.frozen? ⟨b, 0, none⟩ = false := frozen_of_row w b 0 _ _ h
theorem st0 {w : World} {g : Nat} {arr : Array Value} {t : TypeId} {v : Value} {K : World → Prop} (hb : w.heap[g]? = some (.cells arr t (0, 0))) (hj : 0 < arr.size)
    (k : ∀ w', w'.heap[g]? = some (.cells (arr.setIfInBounds 0 v) t (0, 0)) → Mod (fun b => b = g) w w' → w'.heap.size = w.heap.size → K w') : K (w.setCell ⟨g, 0, none⟩ v) := (stB0 hb hj k).2.2
section
variable {w w' w1 w2 : World} {base h g L : Nat} {p : Po} {v v' v1 v2 : Value} {t t2 : WT}
/-- Another one's blocks change. -/
theorem Wi.other {S : Nat → Prop} (c : Wi w1 base p h g v t) (m : Mod S w1 w2) (hS : ∀ b, b < w1.heap.size → S b → base ≤ b ∧ ¬ WH h g v b) : Wi w2 base p h g v t := by
  have hl := c.lt
  refine ⟨m.blk c.blk fun e => (hS _ hl.1 e).2 (.inr rfl), wr_mod c.wr m (fun e => (hS _ hl.2 e).2 (.inl (.inl rfl))) (fun b hb e => ?_), c.ne, c.off, c.bh, c.bg, c.cx.mod m fun b hb e => (hS b hb e).1⟩
  have hb2 := (c.wr.vlt hb).2
  exact (hS b hb2 e).2 (.inl (.inr hb.symm))
/-- What a writer's act leaves, where the last place's number changes too. -/
structure Kl (w : World) (base : Nat) (p : Po) (h g : Nat) (v : Value) (L : Nat) (w' : World) (v' : Value) (t : WT) : Prop where
  wi : Wi w' base p h g v' t
  mod : Mod (fun b => WH h g v b ∨ b = L) w w'
  st : stayed w v v'
theorem Kl.of (k : Ki w base p h g v w' v' t) : Kl w base p h g v L w' v' t := ⟨k.wi, k.mod.mono fun _ _ e => .inl e, k.st⟩
theorem Kl.then (c : Kl w base p h g v L w1 v1 t) (k : Kl w1 base p h g v1 L w2 v2 t2) : Kl w base p h g v L w2 v2 t2 := by
  refine ⟨k.wi, Mod.trans c.mod k.mod ?_, stayed.trans c.st c.mod.size k.st⟩
  rintro b hb (((e | e) | e) | e)
  · exact .inl (.inl (.inl e))
  · rcases c.st b e.symm with h1 | h1
    · exact .inl (.inl (.inr h1.symm))
    · omega
  · exact .inl (.inr e)
  · exact .inr e
theorem Kl.new (c : Kl w base p h g v L w' v' t) (n : New w' w2) : Kl w base p h g v L w2 v' t := ⟨c.wi.new n, Mod.trans c.mod n.mod fun _ _ e => False.elim e, c.st⟩
theorem Kl.set (k : Kl w base p h g v L w1 v' t) (m : Mod (fun b => b = L) w1 w2) (hb : base ≤ L) (hL : ¬ WH h g v' L) : Kl w base p h g v L w2 v' t :=
  ⟨k.wi.other m fun b _ e => by rw [e]; exact ⟨hb, hL⟩, Mod.trans k.mod m fun b _ e => .inr e, k.st⟩
theorem Kl.hid {t' : WT} (k : Kl w base p h g v L w' v' t') {b : Nat} (hb : b < w.heap.size) (hn : ¬ WH h g v b) : ¬ WH h g v' b := by
  rintro ((e | e) | e)
  · exact hn (.inl (.inl e))
  · rcases k.st b e.symm with h1 | h1
    · exact hn (.inl (.inr h1.symm))
    · omega
  · exact hn (.inr e)
theorem Kl.lrep {α : Type} {R : RepT α} {sz : Nat} {vl : Value} {xs : List α} {t : WT} (k : Kl w base p h g v L w' v' t) (hR : RepOk R sz) (hsz : 0 < sz) (hl : LRep R w (fun b => WH h g v b ∨ b = L) vl xs) : LRep R w' (fun b => WH h g v' b ∨ b = L) vl xs := by
  have h1 := LRep.weak (S' := fun b => (WH h g v b ∨ b = L) ∨ w.heap.size ≤ b) hR hl fun b hb e => e.resolve_right (by omega)
  refine LRep.weak hR (LRep.mod hR hsz h1 (k.mod.mono fun _ _ e => .inl e)) fun b _ e => ?_
  rcases e with ((e | e) | e) | e
  · exact .inl (.inl (.inl (.inl e)))
  · rcases k.st b e.symm with e1 | e1
    · exact .inl (.inl (.inl (.inr e1.symm)))
    · exact .inr e1
  · exact .inl (.inl (.inr e))
  · exact .inl (.inr e)
end
theorem good255 : good ((1 : Nat) : Int) false [255] = true := by decide
theorem map1_ok (p : Po) (base : Nat) (h g : Nat) (v : Value) (t : WT) (cs : List Value) (x : Mp) (X L : Nat) (last : Int) (w : World) (c : Wi w base p h g v t) (hO : OkPool p.l) (hX : w.heap[X]? = some (.cells #[.pointer (some ⟨h, 0, none⟩)] 104 (0, 0))) (hL : w.heap[L]? = some (.cells #[zi last] 3 (0, 0))) (hXn : ¬ WH h g v X) (hLn : ¬ WH h g v L) (hXL : X ≠ L) (hbL : base ≤ L) (hlast : -1 ≤ last ∧ last ≤ 65535)
    (hx : mpR w (fun b => WH h g v b ∨ b = L) cs x) (hm : t.1.length + cMp x ≤ 1000000000) :
    Calls Tryz.prog 111 #[.agg cs.toArray, .pointer (some ⟨X, 0, none⟩), .pointer (some ⟨L, 0, none⟩)] w fun e w' => e = .returned (.tuple #[]) ∧ ∃ v' t', Kl w base p h g v L w' v' t' ∧ Wri (mapT p.l last) (cMp x) t x t' ∧ (t'.2 = false → w'.heap[L]? = some (.cells #[zi x.at_] 3 (0, 0)) ∧ -1 ≤ x.at_ ∧ x.at_ ≤ 65535) := by
  obtain ⟨_, _, rfl, hl1, hl2⟩ := hx
  obtain ⟨A1, c1, rfl, hn1, _⟩ := hl1.get tyOk (by decide)
  obtain ⟨A2, c2, rfl, hn2, _⟩ := hl2.get tyOk (by decide)
  have hcost : cMp x = 7 + 3 * x.locals.length + 3 * x.stack.length := rfl
  have hXl : X < w.heap.size := (Array.getElem?_eq_some_iff.1 hX).1
  have hLl : L < w.heap.size := (Array.getElem?_eq_some_iff.1 hL).1
  obtain ⟨M, hM⟩ : ∃ M, M = w.heap.size := ⟨_, rfl⟩
  refine enter ok Tryz.func111 rfl rfl rfl ?_
  refine seq_cut (σ := Unit) (fun _ => [(1, .pointer (some ⟨X, 0, none⟩)), (2, .pointer (some ⟨L, 0, none⟩)), (3, .pointer (some ⟨M, 0, none⟩))]) (fun _ w' => New w w' ∧ w'.heap[M]? = some (.cells #[zi x.at_, .slice A1 x.locals.length c1, .slice A2 x.stack.length c2] 97 (0, 0))) ?_ ?_
  rotate_left
  · intro K hK
    rw [hM] at hK
    exact hK () _ _ ⟨rfl, rfl, rfl, trivial⟩ ⟨New.alloc w _, heap_alloc_new w (.cells #[zi x.at_, .slice A1 x.locals.length c1, .slice A2 x.stack.length c2] 97)⟩
  rintro _ w1 fr1 ⟨n1, hM1⟩
  have c1' := c.new n1
  have hX1 := n1.blk hX
  have hL1 := n1.blk hL
  have hMl : M < w1.heap.size := (Array.getElem?_eq_some_iff.1 hM1).1
  have hMn : ¬ WH h g v M := c.hi (by omega)
  have hs1 := n1.size
  have B0 : True := trivial
  refine seq_cut (σ := Bool) (fun _ => [(1, .pointer (some ⟨X, 0, none⟩)), (2, .pointer (some ⟨L, 0, none⟩)), (3, .pointer (some ⟨M, 0, none⟩))]) (fun b w' => Ki w1 base p h g v w' v (t.1, t.2 || !b) ∧ (b = true ↔ last < x.at_ ∧ x.at_ ≤ 65535)) ?_ ?_
  rotate_left
  · intro K hK
    refine Exists.intro (some ⟨h, 0, none⟩) (And.intro (cell0 hX1) ?_)
    refine Exists.intro x.at_ (And.intro (cellB hM1 rfl) ?_)
    refine Exists.intro last (And.intro (cell0 hL1) ?_)
    refine if_p (fun ha => ?_) (fun ha => ?_)
    · replace ha : last < x.at_ := ha
      refine Exists.intro x.at_ (And.intro (cellB hM1 rfl) ?_)
      refine call_ (must_ok base p h g v t (decide (x.at_ ≤ 65535)) w1 c1') ?_
      rintro e w2 ⟨rfl, k2⟩
      refine ⟨_, rfl, ?_⟩
      exact hK _ _ _ ⟨rfl, rfl, rfl, trivial⟩ ⟨k2, by rw [decide_eq_true_eq]; exact ⟨fun e => ⟨ha, e⟩, fun e => e.2⟩⟩
    · replace ha : ¬ last < x.at_ := ha
      refine call_ (must_ok base p h g v t false w1 c1') ?_
      rintro e w2 ⟨rfl, k2⟩
      refine ⟨_, rfl, ?_⟩
      exact hK false _ _ ⟨rfl, rfl, rfl, trivial⟩ ⟨k2, ⟨fun e => (by cases e), fun e => absurd e.1 ha⟩⟩
  rintro b w2 fr2 ⟨k2, hb⟩
  have hX2 := k2.blk hX1 hXn
  have hL2 := k2.blk hL1 hLn
  have hM2 := k2.blk hM1 hMn
  have k02 := ((Ki.refl c).new n1).then k2
  refine seq_cut (σ := Unit) (fun _ => [(1, .pointer (some ⟨X, 0, none⟩)), (2, .pointer (some ⟨L, 0, none⟩)), (3, .pointer (some ⟨M, 0, none⟩))]) (fun _ w' => w' = w2 ∧ (t.2 || !b) = false) ?_ ?_
  rotate_left
  · intro K hK
    refine Exists.intro (some ⟨h, 0, none⟩) (And.intro (cell0 hX2) ?_)
    refine Exists.intro (t.2 || !b) (And.intro (cellB k2.wi.blk rfl) ?_)
    refine if_ (fun hbad => ?_) (fun hbad => ?_)
    · exact ⟨rfl, v, _, Kl.of k02, Wri.pre (b := b) (Wri.bad hbad _ _) (fun o => hb.2 o.1), fun e => by dsimp only at e; rw [hbad] at e; cases e⟩
    · exact hK () _ _ ⟨rfl, rfl, rfl, trivial⟩ ⟨rfl, hbad⟩
  rintro _ wy fry ⟨hwy, hgood⟩
  obtain rfl := hwy.symm
  have hP : last < x.at_ ∧ x.at_ ≤ 65535 := hb.1 (by
    rw [Bool.or_eq_false_iff] at hgood
    have := hgood.2
    revert this
    cases b <;> decide)
  -- its mark
  refine seq_cut (σ := Value) (fun _ => [(1, .pointer (some ⟨X, 0, none⟩)), (2, .pointer (some ⟨L, 0, none⟩)), (3, .pointer (some ⟨M, 0, none⟩))]) (fun v' w' => Ki w2 base p h g v w' v' (noteU (t.1, t.2 || !b) 1 [255])) ?_ ?_
  rotate_left
  · intro K hK
    refine Exists.intro (some ⟨h, 0, none⟩) (And.intro (cell0 hX2) ?_)
    refine Exists.intro (some ⟨g, 0, none⟩) (And.intro (cellB k2.wi.blk rfl) ?_)
    refine call_ (WUn base p h g v (t.1, t.2 || !b) 1 255 w2 k2.wi (by dsimp only; omega)) ?_
    rintro e w3 ⟨rfl, v3, k3⟩
    refine ⟨_, rfl, ?_⟩
    rw [← noteU_good good255] at k3
    exact hK v3 _ _ ⟨rfl, rfl, rfl, trivial⟩ k3
  rintro v3 w3 fr3 k3
  have q1 : Wri Class.n1 1 (t.1, t.2 || !b) 255 (noteU (t.1, t.2 || !b) 1 [255]) := Wri.n1
  generalize noteU (t.1, t.2 || !b) 1 [255] = t3 at k3 q1
  have p1 := q1.1
  dsimp only at p1
  have k03 := k02.then k3
  have hX3 := k3.blk hX2 (k2.hid (by omega) hXn)
  have hL3 := k3.blk hL2 (k2.hid (by omega) hLn)
  have hM3 := k3.blk hM2 (k2.hid hMl hMn)
  -- how far
  have hz : IntKind.i64.wrap (IntKind.i64.wrap (x.at_ - last) - 1) = x.at_ - last - 1 := by
    rw [wrap_i64 (n := x.at_ - last) (by omega) (by omega), wrap_i64 (by omega) (by omega)]
  refine seq_cut (σ := Value) (fun _ => [(1, .pointer (some ⟨X, 0, none⟩)), (2, .pointer (some ⟨L, 0, none⟩)), (3, .pointer (some ⟨M, 0, none⟩))]) (fun v' w' => Ki w3 base p h g v3 w' v' (noteU t3 2 [x.at_ - last - 1])) ?_ ?_
  rotate_left
  · intro K hK
    refine Exists.intro (some ⟨h, 0, none⟩) (And.intro (cell0 hX3) ?_)
    refine Exists.intro x.at_ (And.intro (cellB hM3 rfl) ?_)
    refine Exists.intro last (And.intro (cell0 hL3) ?_)
    refine call_ (two1_ok base p h g v3 t3 [IntKind.i64.wrap (IntKind.i64.wrap (x.at_ - last) - 1)] 1 w3 k3.wi rfl (by simp; omega)) ?_
    rintro e w4 ⟨rfl, v4, k4⟩
    refine ⟨_, rfl, ?_⟩
    rw [hz] at k4
    exact hK v4 _ _ ⟨rfl, rfl, rfl, trivial⟩ k4
  rintro v4 w4 fr4 k4
  have q2 : Wri Class.n2 2 t3 (x.at_ - last - 1) (noteU t3 2 [x.at_ - last - 1]) := Wri.n2
  generalize noteU t3 2 [x.at_ - last - 1] = t4 at k4 q2
  have p2 := q2.1
  have k04 := k03.then k4
  have hs2 := k2.mod.size
  have hs3 := k3.mod.size
  have hX4 := k4.blk hX3 (k3.hid (by omega) (k2.hid (by omega) hXn))
  have hL4 := k4.blk hL3 (k3.hid (by omega) (k2.hid (by omega) hLn))
  have hM4 := k4.blk hM3 (k3.hid (by omega) (k2.hid hMl hMn))
  have hX4n := k04.hid hXl hXn
  have hL4n := k04.hid hLl hLn
  have hM4n : ¬ WH h g v4 M := k4.hid (by have := k3.mod.size; omega) (k3.hid (by omega) (k2.hid hMl hMn))
  -- the last place
  refine seq_cut (σ := Unit) (fun _ => [(1, .pointer (some ⟨X, 0, none⟩)), (2, .pointer (some ⟨L, 0, none⟩)), (3, .pointer (some ⟨M, 0, none⟩))]) (fun _ w' => Mod (fun b => b = L) w4 w' ∧ w'.heap[L]? = some (.cells #[zi x.at_] 3 (0, 0))) ?_ ?_
  rotate_left
  · intro K hK
    refine Exists.intro x.at_ (And.intro (cellB hM4 rfl) ?_)
    refine And.intro ⟨_, cell0 hL4⟩ (And.intro (fz0 hL4) (force_ ?_))
    refine st0 hL4 (show (0 : Nat) < 1 by decide) ?_
    intro w5 hL5 m5 s5
    exact hK () _ _ ⟨rfl, rfl, rfl, trivial⟩ ⟨m5, hL5⟩
  rintro _ w5 fr5 ⟨m5, hL5⟩
  have k05 := (Kl.of (L := L) k04).set m5 hbL hL4n
  have hX5 := m5.blk hX4 hXL
  have hM5 := m5.blk hM4 (show ¬ M = L by omega)
  have c5 := k05.wi
  have hl51 := LRep.weak (S' := WH h g v4) tyOk (k05.lrep tyOk (by decide) hl1) (fun b _ e => .inl e)
  have hl52 := LRep.weak (S' := WH h g v4) tyOk (k05.lrep tyOk (by decide) hl2) (fun b _ e => .inl e)
  have hs4 := k4.mod.size
  have hs5 := m5.size
  -- its locals
  refine seq_cut (σ := Value × WT) (fun _ => [(1, .pointer (some ⟨X, 0, none⟩)), (2, .pointer (some ⟨L, 0, none⟩)), (3, .pointer (some ⟨M, 0, none⟩))]) (fun s w' => Ki w5 base p h g v4 w' s.1 s.2 ∧ Wri (lcsT p.l) (2 + 3 * x.locals.length) t4 x.locals s.2 ∧ w'.heap[X]? = some (.cells #[.pointer (some ⟨h, 0, none⟩)] 104 (0, 0)) ∧ w'.heap[M]? = some (.cells #[zi x.at_, .slice A1 x.locals.length c1, .slice A2 x.stack.length c2] 97 (0, 0))) ?_ ?_
  rotate_left
  · intro K hK
    refine draw_ (w := w5) ok (.q 0 (.q 1 (.q 2 (.q 3 (.q 5 (.q 6 (.e 4 (.e 7 .done)))))))) [7] (fun w'' : World => w''.heap[X]? = some (.cells #[.pointer (some ⟨h, 0, none⟩)] 104 (0, 0)) ∧ w''.heap[M]? = some (.cells #[zi x.at_, .slice A1 x.locals.length c1, .slice A2 x.stack.length c2] 97 (0, 0))) (by kernel_rfl) (by kernel_rfl) (by kernel_rfl) (by kernel_rfl) (by kernel_rfl) ⟨(New.drew w5).blk hX5, (New.drew w5).blk hM5⟩ ?_
    refine Exists.intro (some ⟨h, 0, none⟩) (And.intro (fun w'' hw => cell0 hw.1) ?_)
    refine Exists.intro (some ⟨h, 0, none⟩) (And.intro (fun w'' hw => cell0 hw.1) ?_)
    refine Exists.intro A1 (Exists.intro x.locals.length (Exists.intro c1 (And.intro (fun w'' hw => cellB hw.2 rfl) ?_)))
    refine Exists.intro (some ⟨h, 0, none⟩) (And.intro (fun w'' hw => cell0 hw.1) ?_)
    have nd := New.drew w5
    have kd := (Ki.refl c5).new nd
    refine call_ (locals_ok p base h g v4 t4 _ x.locals w5.drew kd.wi (kd.lrep tyOk (by decide) hl51) (by omega)) ?_
    rintro e w6 ⟨u, b6, rfl, hu, k6, hb6⟩
    refine ⟨_, rfl, ?_⟩
    have k56 := kd.then k6
    have hX6 := k56.blk hX5 hX4n
    have hM6 := k56.blk hM5 hM4n
    refine Exists.intro (fun w'' : World => w''.heap[X]? = some (.cells #[.pointer (some ⟨h, 0, none⟩)] 104 (0, 0)) ∧ w''.heap[M]? = some (.cells #[zi x.at_, .slice A1 x.locals.length c1, .slice A2 x.stack.length c2] 97 (0, 0))) ?_
    refine And.intro (fun _ h => h) ?_
    refine And.intro ⟨hX6, hM6⟩ ?_
    have hol := locOut_len false x.locals
    have hcs := csum_const (f := cTy) (n := 3) (fun _ => rfl) (locOut false x.locals)
    refine call_ (list_ty p base h g v4 (t4.1, t4.2 || !b6) u (locOut false x.locals) w6 k56.wi hO (LRep.weak tyOk hu fun _ _ e => e) (by dsimp only; omega)) ?_
    rintro e w7 ⟨rfl, v7, t7, k7, wr7⟩
    refine ⟨_, rfl, ?_⟩
    have hs6 := k56.mod.size
    refine hK (v7, t7) _ _ ⟨rfl, rfl, rfl, trivial⟩ ⟨k56.then k7, ?_, k7.blk hX6 (k56.hid (by omega) hX4n), k7.blk hM6 (k56.hid (by omega) hM4n)⟩
    exact Wri.le (Wri.by (p := b6) wr7 rfl hb6) (by omega)
  rintro ⟨v7, t7⟩ w7 fr7 ⟨k7, q3, hX7, hM7⟩
  dsimp only at k7 q3
  have p3 := q3.1
  have hcs := csum_const (f := cTy) (n := 3) (fun _ => rfl) x.stack
  -- its stack
  refine Exists.intro (some ⟨h, 0, none⟩) (And.intro (cell0 hX7) ?_)
  refine Exists.intro A2 (Exists.intro x.stack.length (Exists.intro c2 (And.intro (cellB hM7 rfl) ?_)))
  refine Exists.intro (some ⟨h, 0, none⟩) (And.intro (cell0 hX7) ?_)
  refine call_ (list_ty p base h g v7 t7 _ x.stack w7 k7.wi hO (k7.lrep tyOk (by decide) hl52) (by omega)) ?_
  rintro e w8 ⟨rfl, v8, t8, k8, q4⟩
  refine ⟨_, rfl, ?_⟩
  refine ⟨rfl, v8, t8, (k05.then (Kl.of k7)).then (Kl.of k8), ?_, fun _ => ⟨k8.blk (k7.blk hL5 hL4n) (k7.hid (by omega) hL4n), by omega, hP.2⟩⟩
  have := Wri.by (p := b) (P := fun m : Mp => last < m.at_ ∧ m.at_ ≤ 65535) (f := fun m : Mp => (255, m.at_ - last - 1, m.locals, m.stack)) (hf := fun x y _ _ e => by
    cases x; cases y
    simp only [Prod.mk.injEq] at e
    simp only [Mp.mk.injEq]
    exact ⟨by omega, e.2.2.1, e.2.2.2⟩) (q1.seq (q2.seq (q3.seq q4))) rfl hb
  refine Wri.le (d := cMp x) this ?_
  rw [hcost]
  omega
theorem list_map (p : Po) (base : Nat) (h g : Nat) (v : Value) (t : WT) (vl : Value) (xs : List Mp) (X L : Nat)  (w : World) (c : Wi w base p h g v t) (hO : OkPool p.l) (hl : LRep mpR w (fun b => WH h g v b ∨ b = L) vl xs) (hX : w.heap[X]? = some (.cells #[.pointer (some ⟨h, 0, none⟩)] 104 (0, 0))) (hL : w.heap[L]? = some (.cells #[zi (-1)] 3 (0, 0))) (hXn : ¬ WH h g v X) (hLn : ¬ WH h g v L) (hXL : X ≠ L) (hbL : base ≤ L)  (hm : t.1.length + (2 + csum cMp xs) ≤ 1000000000) :
    Calls Tryz.prog 110 #[.pointer (some ⟨h, 0, none⟩), vl, zi 256, .func (.func 111) #[] #[.pointer (some ⟨X, 0, none⟩), .pointer (some ⟨L, 0, none⟩)]] w fun e w' => e = .returned (.tuple #[]) ∧ ∃ v' t', Kl w base p h g v L w' v' t' ∧ Wri (mapsT p.l) (2 + csum cMp xs) t xs t' := by
  obtain ⟨Al, cl, rfl, h43, _⟩ := hl.get mpOk (by decide)
  refine enter ok Tryz.func110 rfl rfl rfl ?_
  refine seq_cut (σ := Unit) (fun _ => [(0, .pointer (some ⟨h, 0, none⟩)), (1, .slice Al xs.length cl), (3, .func (.func 111) #[] #[.pointer (some ⟨X, 0, none⟩), .pointer (some ⟨L, 0, none⟩)])]) (fun _ w' => Ki w base p h g v w' v (t.1, t.2 || !decide (xs.length ≤ 256))) ?_ ?_
  rotate_left
  · intro K hK
    refine call_ (must_ok base p h g v t (decide ((xs.length : Int) ≤ 256)) w c) ?_
    rintro e w1 ⟨rfl, k1⟩
    refine ⟨_, rfl, ?_⟩
    have e1 : decide ((xs.length : Int) ≤ 256) = decide (xs.length ≤ 256) := decide_eq_decide.2 (by omega)
    rw [e1] at k1
    exact hK () _ _ ⟨rfl, rfl, rfl, trivial⟩ k1
  rintro _ w1 fr1 k1
  refine seq_cut (σ := Value × WT) (fun _ => [(0, .pointer (some ⟨h, 0, none⟩)), (1, .slice Al xs.length cl), (3, .func (.func 111) #[] #[.pointer (some ⟨X, 0, none⟩), .pointer (some ⟨L, 0, none⟩)])]) (fun s w' => Ki w base p h g v w' s.1 s.2 ∧ Wri n2 2 (t.1, t.2 || !decide (xs.length ≤ 256)) (xs.length : Int) s.2) ?_ ?_
  rotate_left
  · intro K hK
    refine Exists.intro (t.2 || !decide (xs.length ≤ 256)) (And.intro (cellB k1.wi.blk rfl) ?_)
    cases hbad : (t.2 || !decide (xs.length ≤ 256)) with
    | true =>
      rw [hbad] at k1 hK
      exact hK (v, (t.1, true)) _ _ ⟨rfl, rfl, rfl, trivial⟩ ⟨k1, Wri.bad rfl _ _⟩
    | false =>
      rw [hbad] at k1 hK
      refine call_ (two1_ok base p h g v (t.1, false) [(xs.length : Int)] 1 w1 k1.wi rfl (by simp; omega)) ?_
      rintro e w2 ⟨rfl, v2, k2⟩
      refine ⟨_, rfl, ?_⟩
      exact hK (v2, _) _ _ ⟨rfl, rfl, rfl, trivial⟩ ⟨k1.then k2, Wri.n2⟩
  rintro ⟨v2, t2⟩ w2 fr2 ⟨k2, wr2⟩
  dsimp only at k2 wr2
  refine seq_cut (σ := Unit) (fun _ => [(0, .pointer (some ⟨h, 0, none⟩)), (3, .func (.func 111) #[] #[.pointer (some ⟨X, 0, none⟩), .pointer (some ⟨L, 0, none⟩)]), (26, .slice Al xs.length cl), (27, zi (xs.length : Int)), (28, zi 0)]) (fun _ w' => w' = w2) ?_ ?_
  rotate_left
  · intro K hK
    exact hK () _ _ ⟨rfl, rfl, rfl, rfl, rfl, trivial⟩ rfl
  rintro _ wy fry hwy
  obtain rfl := hwy.symm
  have hXw : X < w.heap.size := (Array.getElem?_eq_some_iff.1 hX).1
  have hLw : L < w.heap.size := (Array.getElem?_eq_some_iff.1 hL).1
  refine den_loop (σ := Nat × Value × WT × Int) (fun s => [(0, .pointer (some ⟨h, 0, none⟩)), (3, .func (.func 111) #[] #[.pointer (some ⟨X, 0, none⟩), .pointer (some ⟨L, 0, none⟩)]), (26, .slice Al xs.length cl), (27, zi (xs.length : Int)), (28, zi (s.1 : Int))])
    (fun m s wl => m + s.1 = xs.length ∧ Kl w base p h g v L wl s.2.1 s.2.2.1 ∧ wl.heap[X]? = some (.cells #[.pointer (some ⟨h, 0, none⟩)] 104 (0, 0)) ∧ (s.2.2.1.2 = false → wl.heap[L]? = some (.cells #[zi s.2.2.2] 3 (0, 0)) ∧ -1 ≤ s.2.2.2 ∧ s.2.2.2 ≤ 65535) ∧ WMs p.l t xs s.1 s.2.2.2 s.2.2.1) xs.length (0, v2, t2, -1) ⟨rfl, rfl, rfl, rfl, rfl, trivial⟩ ⟨rfl, Kl.of k2, k2.blk hX hXn, fun _ => ⟨k2.blk hL hLn, by dsimp only; omega, by dsimp only; omega⟩, WMs.start wr2⟩ ?_
  rintro m ⟨i, v3, t3, last⟩ wl frl ⟨hfuel, kl, hXl, hLl, hw⟩
  dsimp only at hfuel kl hLl hw
  refine if_p (fun hlt => ?_) (fun hge => ?_)
  · replace hlt : (i : Int) < (xs.length : Int) := hlt
    have hi : i < xs.length := by omega
    obtain ⟨m, rfl⟩ : ∃ m', m = m' + 1 := ⟨m - 1, by omega⟩
    have inc := incN hi h43
    obtain ⟨Al', cl', he, _, gx⟩ := (kl.lrep mpOk (by decide) hl).get mpOk (by decide)
    cases he
    obtain ⟨a, cs, ea, hx, hc⟩ := gx i hi
    have hcs : csum cMp (xs.take i) + cMp xs[i] ≤ csum cMp xs := by
      have h1 := csum_le cMp xs (i + 1)
      rw [List.take_succ_eq_append_getElem hi, csum_snoc] at h1
      exact h1
    have hw1 := hw.1
    have hmem : xs[i] ∈ xs := List.getElem_mem hi
    obtain ⟨y, hy⟩ : ∃ y, y = xs[i] := ⟨_, rfl⟩
    rw [← hy] at hx hcs hmem
    have hx0 := hx
    obtain ⟨_, _, rfl, hy1, hy2⟩ := hx
    obtain ⟨A1, c1, rfl, _⟩ := hy1.get tyOk (by decide)
    obtain ⟨A2, c2, rfl, _⟩ := hy2.get tyOk (by decide)
    refine And.intro (by omega) (And.intro hlt ?_)
    refine some_at ea ?_
    refine loadN_row (vs := [zi y.at_, .slice A1 y.locals.length c1, .slice A2 y.stack.length c2]) (fun j u hu => by rw [Int.toNat_natCast]; exact hc j u hu) rfl ?_
    refine And.intro rfl ?_
    refine storeNew (vs := [zi y.at_, .slice A1 y.locals.length c1, .slice A2 y.stack.length c2]) (arr := #[zi 0, .slice none 0 0, .slice none 0 0]) rfl (mpOk.one hx0) ?_
    intro w5 hb5 n5 s5
    have k5 := kl.new n5
    refine Exists.intro t3.2 (And.intro (cellB k5.wi.blk rfl) ?_)
    refine if_ (fun hbad => ?_) (fun hbad => ?_)
    · exact ⟨rfl, v3, t3, k5, hw.stop hbad⟩
    refine skip_ (thenF_ ?_)
    refine loadN_row (vs := [zi y.at_, .slice A1 y.locals.length c1, .slice A2 y.stack.length c2]) (rowB hb5) rfl ?_
    refine call_ (map1_ok p base h g v3 t3 _ y X L last w5 k5.wi hO (n5.blk hXl) (n5.blk (hLl hbad).1) (kl.hid hXw hXn) (kl.hid hLw hLn) hXL hbL (hLl hbad).2 (mpOk.mod hx0 n5.mod) (by omega)) ?_
    rintro e w6 ⟨rfl, v6, t6, k6, wr6, hl6⟩
    refine ⟨_, rfl, ?_⟩
    exact ⟨m, (i + 1, v6, t6, y.at_), by omega, ⟨rfl, rfl, rfl, rfl, inc, trivial⟩, by dsimp only; omega, k5.then k6, k6.mod.blk (n5.blk hXl) (fun e => e.elim (kl.hid hXw hXn) hXL), hl6, (by dsimp only; rw [hy]; exact hw.step hi (by rw [← hy]; exact wr6))⟩
  · replace hge : ¬ (i : Int) < (xs.length : Int) := hge
    obtain rfl : i = xs.length := by omega
    exact ⟨rfl, v3, t3, kl, hw.done⟩

theorem maps_ok (p : Po) (base : Nat) (h g : Nat) (v : Value) (t : WT) (vl : Value) (xs : List Mp) (w : World) (c : Wi w base p h g v t) (hO : OkPool p.l) (hl : LRep mpR w (WH h g v) vl xs) (hm : t.1.length + (2 + csum cMp xs) ≤ 1000000000) :
    Calls Tryz.prog 91 #[.pointer (some ⟨h, 0, none⟩), vl] w fun e w' => e = .returned (.tuple #[]) ∧ ∃ v' t', Ki w base p h g v w' v' t' ∧ Wri (mapsT p.l) (2 + csum cMp xs) t xs t' := by
  obtain ⟨Al, cl, rfl, h43, _⟩ := hl.get mpOk (by decide)
  refine enter ok Tryz.func91 rfl rfl rfl ?_
  refine seq_cut (σ := Nat) (fun X => [(1, .slice Al xs.length cl), (2, .pointer (some ⟨X, 0, none⟩))]) (fun X w' => New w w' ∧ w.heap.size ≤ X ∧ w'.heap[X]? = some (.cells #[.pointer (some ⟨h, 0, none⟩)] 104 (0, 0))) ?_ ?_
  rotate_left
  · intro K hK
    exact hK w.heap.size _ _ ⟨rfl, rfl, trivial⟩ ⟨New.alloc w _, Nat.le_refl _, heap_alloc_new w (.cells #[.pointer (some ⟨h, 0, none⟩)] 104)⟩
  rintro X w1 fr1 ⟨n1, hXw, hX⟩
  have hXl : X < w1.heap.size := (Array.getElem?_eq_some_iff.1 hX).1
  refine seq_cut (σ := Nat) (fun L => [(1, .slice Al xs.length cl), (2, .pointer (some ⟨X, 0, none⟩)), (4, .pointer (some ⟨L, 0, none⟩))]) (fun L w' => New w1 w' ∧ w1.heap.size ≤ L ∧ w'.heap[L]? = some (.cells #[zi (-1)] 3 (0, 0))) ?_ ?_
  rotate_left
  · intro K hK
    have n2 := New.alloc w1 (.cells #[zi 0] 3)
    have hb2 := heap_alloc_new w1 (.cells #[zi 0] 3)
    refine And.intro ⟨_, cell0 hb2⟩ (And.intro (fz0 hb2) (force_ ?_))
    refine st0 hb2 (show (0 : Nat) < 1 by decide) ?_
    intro w2 hb m2 s2
    exact hK w1.heap.size _ _ ⟨rfl, rfl, rfl, trivial⟩ ⟨New.made m2, Nat.le_refl _, hb⟩
  rintro L w2 fr2 ⟨n2, hLw, hL⟩
  have n02 := n1.trans n2
  have k2 := (Ki.refl c).new n02
  have hz1 := n1.size
  have hbw := c.bw
  refine Exists.intro (some ⟨h, 0, none⟩) (And.intro (cell0 (n2.blk hX)) ?_)
  have hXn : ¬ WH h g v X := c.hi hXw
  have hLn : ¬ WH h g v L := c.hi (by omega)
  have hl2 : LRep mpR w2 (fun b => WH h g v b ∨ b = L) (.slice Al xs.length cl) xs := by
    have h1 := LRep.weak (S' := fun b => WH h g v b ∨ b = L) mpOk hl fun b hb e => e.resolve_right (by omega)
    exact LRep.mod mpOk (by decide) h1 (n02.mod.mono fun _ _ e => False.elim e)
  refine call_ (list_map p base h g v t _ xs X L w2 k2.wi hO hl2 (n2.blk hX) hL hXn hLn (by omega) (by omega) hm) ?_
  rintro e w3 ⟨rfl, v3, t3, k3, wr3⟩
  refine ⟨_, rfl, ?_⟩
  refine ⟨rfl, v3, t3, ⟨k3.wi, Mod.trans n02.mod k3.mod fun b hb e => ?_, stayed.trans (stayed.refl w v) n02.size k3.st⟩, wr3⟩
  rcases e with e | e
  · exact e
  · omega

end Go.Proofs.YtdcaafldnbcdkaaGreatDoor.Class

/-! ### KRef3 -/
namespace Go.Proofs.YtdcaafldnbcdkaaGreatDoor.Class
open Go Go.Proofs.YtdcaafldnbcdkaaGreatDoor Go.Proofs.YtdcaafldnbcdkaaGreatDoor.Eng Go.Proofs Go.Proofs.YtdcaafldnbcdkaaGreatDoor.Word Go.Proofs.YtdcaafldnbcdkaaGreatDoor.Fmt
open Go.Proofs.YtdcaafldnbcdkaaGreatDoor.Pool (Ent at_ poolF strV entC entV EntOk Pl OkPool both own_low tagAt)
set_option maxRecDepth 10000

/-- Another one's blocks change. -/
theorem Ri.other {w1 w2 : World} {base h : Nat} {p : Po} {v : Value} {t : WT} {S : Nat → Prop} (c : Ri w1 base p h v t) (m : Mod S w1 w2) (hS : ∀ b, b < w1.heap.size → S b → base ≤ b ∧ ¬ RHb h v b) : Ri w2 base p h v t := by
  refine ⟨m.blk c.blk (fun e => (hS _ c.lt e).2 (.inr rfl)), own_mod m c.own (fun k hk e => (hS _ (c.vlt hk).2 e).2 (.inl hk.symm)), c.off, c.bh, c.cx.mod m fun b hb e => (hS b hb e).1⟩
/-! ### Lists of types, as the document tells them -/
def tOut (b : Bool) (xs : List Ty) : List Ty := if b then locOut false xs else xs
def tOk (b : Bool) (xs : List Ty) : Prop := if b then locOk false xs else True
def tT (b : Bool) (l : List Ent) : Tell (List Ty) := if b then lcsT l else stkT l
theorem tT_ok {b : Bool} {l : List Ent} {xs : List Ty} : (tT b l).ok xs ↔ xs.length ≤ 64 ∧ tOk b xs ∧ ∀ y ∈ tOut b xs, (tyT l).ok y := by
  cases b with
  | false => exact ⟨fun h => ⟨h.1, trivial, h.2⟩, fun h => ⟨h.1, h.2.2⟩⟩
  | true => exact ⟨fun h => ⟨h.1.1, h.1.2, h.2.2⟩, fun h => ⟨⟨h.1, h.2.1⟩, Nat.le_trans (locOut_len false xs) h.1, h.2.2⟩⟩
theorem tT_enc {b : Bool} {l : List Ent} {xs : List Ty} : (tT b l).enc xs = enc 2 ((tOut b xs).length : Int) ++ (tOut b xs).flatMap (tyT l).enc := by
  cases b <;> rfl
theorem tOut_len (b : Bool) (xs : List Ty) : (tOut b xs).length ≤ xs.length := by
  cases b with
  | false => exact Nat.le_refl _
  | true => exact locOut_len false xs
/-- Types that are being told: t ahead, i read, u told so far (its mark: all marks), done: what was told. -/
def TyI (b : Bool) (l : List Ent) (t : WT) (xs : List Ty) (i : Nat) (u : WT) (done : List Ty) : Prop :=
  done.length ≤ i ∧ done.length ≤ xs.length ∧ u.1.length ≤ 3 * done.length ∧ ((u.2 = true ∧ (t.2 = true ∨ ¬ (tT b l).ok xs)) ∨
    (u.2 = false ∧ t.2 = false ∧ xs.length ≤ 64 ∧ u.1 = done.flatMap (tyT l).enc ∧ (∀ x ∈ done, (tyT l).ok x) ∧ tOut b xs = done ++ tOut b (xs.drop i) ∧ (tOk b xs ↔ tOk b (xs.drop i))))
theorem TyI.start {b : Bool} {l : List Ent} {t : WT} {xs : List Ty} : TyI b l t xs 0 ([], t.2 || !decide (xs.length ≤ 64)) [] := by
  refine ⟨Nat.le_refl _, Nat.zero_le _, Nat.le_refl _, ?_⟩
  by_cases h : xs.length ≤ 64
  · rw [decide_eq_true h]
    cases ht : t.2 with
    | true => exact .inl ⟨rfl, .inl rfl⟩
    | false => exact .inr ⟨rfl, rfl, h, rfl, (fun _ h => by cases h), rfl, Iff.rfl⟩
  · rw [decide_eq_false h]
    refine .inl ⟨by simp, .inr fun o => h (tT_ok.1 o).1⟩
/-- One more; not a long among locals. -/
theorem TyI.step {b : Bool} {l : List Ent} {t u u1 : WT} {xs done : List Ty} {i : Nat} (hi : i < xs.length) (h : TyI b l t xs i u done) (hd : done.length < xs.length) (k : Wri (tyT l) 3 u xs[i] u1) (hn : b = true → xs[i].kind ≠ 2) : TyI b l t xs (i + 1) u1 (done ++ [xs[i]]) := by
  obtain ⟨h1, h2, h3, h4⟩ := h
  obtain ⟨k1, k2⟩ := k
  have ed : xs.drop i = xs[i] :: xs.drop (i + 1) := List.drop_eq_getElem_cons hi
  have eo : tOut b (xs.drop i) = xs[i] :: tOut b (xs.drop (i + 1)) := by
    rw [ed]
    cases b with
    | false => rfl
    | true =>
      show xs[i] :: locOut (decide (xs[i].kind = 2)) (xs.drop (i + 1)) = _
      rw [decide_eq_false (hn rfl)]
      rfl
  have ek : tOk b (xs.drop i) ↔ tOk b (xs.drop (i + 1)) := by
    rw [ed]
    cases b with
    | false => exact Iff.rfl
    | true =>
      show locOk (decide (xs[i].kind = 2)) (xs.drop (i + 1)) ↔ _
      rw [decide_eq_false (hn rfl)]
      exact Iff.rfl
  refine ⟨by simp; omega, by simp; omega, by simp; omega, ?_⟩
  rcases k2 with ⟨a, c⟩ | ⟨a, c, e, s⟩
  · refine .inl ⟨a, ?_⟩
    rcases h4 with ⟨p, q⟩ | ⟨p, q, r, _, _, f, _⟩
    · exact q
    · rcases c with c | c
      · rw [p] at c; cases c
      · refine .inr fun o => c ((tT_ok.1 o).2.2 _ ?_)
        rw [f, eo]
        simp
  · rcases h4 with ⟨p, q⟩ | ⟨p, q, r, g, j, f, m⟩
    · rw [c] at p; cases p
    · refine .inr ⟨a, q, r, ?_, fun y hy => ?_, ?_, m.trans ek⟩
      · rw [s, g, List.flatMap_append]
        simp
      · rcases List.mem_append.1 hy with hy | hy
        · exact j y hy
        · rw [List.mem_singleton.1 hy]; exact e
      · rw [f, eo, List.append_assoc]
        rfl
/-- A long among locals, with what stands behind. -/
theorem TyI.long {l : List Ent} {t u u1 : WT} {xs done : List Ty} {i : Nat} {c : Bool} (hi : i < xs.length) (h : TyI true l t xs i u done) (hd : done.length < xs.length) (k : Wri (tyT l) 3 u xs[i] u1) (hn : xs[i].kind = 2) (hc : c = true ↔ ∃ h : i + 1 < xs.length, xs[i + 1] = ty0) : TyI true l t xs (i + 2) (u1.1, u1.2 || !c) (done ++ [xs[i]]) := by
  obtain ⟨h1, h2, h3, h4⟩ := h
  obtain ⟨k1, k2⟩ := k
  have ed : xs.drop i = xs[i] :: xs.drop (i + 1) := List.drop_eq_getElem_cons hi
  have eo : tOut true (xs.drop i) = xs[i] :: locOut true (xs.drop (i + 1)) := by
    rw [ed]
    show xs[i] :: locOut (decide (xs[i].kind = 2)) (xs.drop (i + 1)) = _
    rw [decide_eq_true hn]
  have ek : tOk true (xs.drop i) ↔ locOk true (xs.drop (i + 1)) := by
    rw [ed]
    show locOk (decide (xs[i].kind = 2)) (xs.drop (i + 1)) ↔ _
    rw [decide_eq_true hn]
  refine ⟨by simp; omega, by simp; omega, by simp; omega, ?_⟩
  have bad : c = false → t.2 = true ∨ ¬ (tT true l).ok xs := fun hcf => by
    rcases h4 with ⟨p, q⟩ | ⟨p, q, r, g, j, f, m⟩
    · exact q
    · refine .inr fun o => ?_
      have := ek.1 (m.1 (tT_ok.1 o).2.1)
      have hno : ¬ c = true := by rw [hcf]; decide
      rcases Nat.lt_or_ge (i + 1) xs.length with hl | hl
      · rw [List.drop_eq_getElem_cons hl] at this
        exact hno (hc.2 ⟨hl, this.1⟩)
      · rw [List.drop_eq_nil_of_le hl] at this
        exact this
  cases hcc : c with
  | false => exact .inl ⟨by simp, bad hcc⟩
  | true =>
    obtain ⟨hl, hty⟩ := hc.1 hcc
    have ed2 : xs.drop (i + 1) = xs[i + 1] :: xs.drop (i + 2) := List.drop_eq_getElem_cons hl
    rw [ed2] at eo ek
    have eo' : tOut true (xs.drop i) = xs[i] :: tOut true (xs.drop (i + 2)) := eo
    have ek' : tOk true (xs.drop i) ↔ tOk true (xs.drop (i + 2)) := ek.trans ⟨fun h => h.2, fun h => ⟨hty, h⟩⟩
    rcases k2 with ⟨a, d⟩ | ⟨a, d, e, s⟩
    · refine .inl ⟨by dsimp only; rw [a]; rfl, ?_⟩
      rcases h4 with ⟨p, q⟩ | ⟨p, q, r, _, _, f, _⟩
      · exact q
      · rcases d with d | d
        · rw [p] at d; cases d
        · refine .inr fun o => d ((tT_ok.1 o).2.2 _ ?_)
          rw [f, eo']
          simp
    · rcases h4 with ⟨p, q⟩ | ⟨p, q, r, g, j, f, m⟩
      · rw [d] at p; cases p
      · refine .inr ⟨by dsimp only; rw [a]; rfl, q, r, ?_, fun y hy => ?_, ?_, m.trans ek'⟩
        · dsimp only
          rw [s, g, List.flatMap_append]
          simp
        · rcases List.mem_append.1 hy with hy | hy
          · exact j y hy
          · rw [List.mem_singleton.1 hy]; exact e
        · rw [f, eo', List.append_assoc]
          rfl
/-- All told: the number, and the bytes behind. -/
theorem TyI.done {b : Bool} {l : List Ent} {t u : WT} {xs done : List Ty} {i : Nat} {bad ub : Bool} (h : TyI b l t xs i u done) (hi : xs.length ≤ i) (hu : u.2 = (bad || ub)) : Wri (tT b l) (2 + 3 * xs.length) t xs ((noteU (t.1, bad) 2 [(done.length : Int)]).1 ++ u.1, (noteU (t.1, bad) 2 [(done.length : Int)]).2 || ub) := by
  obtain ⟨h1, h2, h3, h4⟩ := h
  have hle := noteU_le (t.1, bad) 2 [(done.length : Int)]
  simp only [List.length_cons, List.length_nil] at hle
  refine ⟨by simp only [List.length_append]; omega, ?_⟩
  rcases h4 with ⟨p, q⟩ | ⟨p, q, r, g, j, f, m⟩
  · refine .inl ⟨?_, q⟩
    rw [hu, Bool.or_eq_true] at p
    unfold noteU
    dsimp only
    rcases p with p | p
    · rw [p]; simp
    · rw [p]; simp
  · rw [hu, Bool.or_eq_false_iff] at p
    rw [List.drop_eq_nil_of_le hi] at f m
    have f' : tOut b xs = done := by rw [f]; cases b <;> simp [tOut, locOut]
    have m' : tOk b xs := m.2 (by cases b <;> trivial)
    have hn : done.length ≤ 64 := by
      have := tOut_len b xs
      rw [f'] at this
      omega
    have w2 := (Wri.n2 (t := (t.1, bad)) (n := (done.length : Int))).2
    rcases w2 with ⟨_, c⟩ | ⟨c1, _, _, c4⟩
    · rcases c with c | c
      · rw [p.1] at c; cases c
      · exact absurd (n2_ok (by omega) (by omega)) c
    · refine .inr ⟨by dsimp only; rw [c1, p.2]; rfl, q, tT_ok.2 ⟨r, m', by rw [f']; exact j⟩, ?_⟩
      dsimp only
      rw [c4, tT_enc, f', g, List.append_assoc]
      rfl

end Go.Proofs.YtdcaafldnbcdkaaGreatDoor.Class

/-! ### KRef4 -/
namespace Go.Proofs.YtdcaafldnbcdkaaGreatDoor.Class
open Go Go.Proofs.YtdcaafldnbcdkaaGreatDoor Go.Proofs.YtdcaafldnbcdkaaGreatDoor.Eng Go.Proofs Go.Proofs.YtdcaafldnbcdkaaGreatDoor.Word Go.Proofs.YtdcaafldnbcdkaaGreatDoor.Fmt
open Go.Proofs.YtdcaafldnbcdkaaGreatDoor.Pool (Ent at_ poolF strV entC entV EntOk Pl OkPool both own_low tagAt)
set_option maxRecDepth 10000

section
variable {w w1 w2 w' : World} {base h : Nat} {p : Po} {v v' : Value} {t : WT}
theorem Kr.lrep {α : Type} {R : RepT α} {sz : Nat} {vl : Value} {xs : List α} (k : Kr w base p h v w' v' t) (hR : RepOk R sz) (hsz : 0 < sz) (hl : LRep R w (RHb h v) vl xs) : LRep R w' (RHb h v') vl xs := by
  have h1 := LRep.weak (S' := fun b => RHb h v b ∨ w.heap.size ≤ b) hR hl fun b hb e => e.resolve_right (by omega)
  refine LRep.weak hR (LRep.mod hR hsz h1 (k.mod.mono fun _ _ e => .inl e)) fun b _ e => ?_
  rcases e with e | e
  · rcases k.st b e.symm with e1 | e1
    · exact .inl (.inl e1.symm)
    · exact .inr e1
  · exact .inl (.inr e)
/-- What is done elsewhere, in new blocks. -/
theorem Kr.also {S : Nat → Prop} (k : Kr w base p h v w1 v' t) (m : Mod S w1 w2) (hS : ∀ b, S b → w.heap.size ≤ b ∧ ¬ RHb h v' b) (hw : base ≤ w.heap.size) : Kr w base p h v w2 v' t :=
  ⟨k.ri.other m fun b _ e => ⟨Nat.le_trans hw (hS b e).1, (hS b e).2⟩, Mod.trans k.mod m fun b hb e => by have := (hS b e).1; omega, k.st⟩
end
theorem Wri.mark {α : Type} {T : Tell α} {c : Nat} {t t1 : WT} {x : α} (h : Wri T c t x t1) (b : Bool) : Wri T c (t.1, b || t.2) x (t1.1, b || t1.2) := by
  cases b with
  | true => exact ⟨h.1, .inl ⟨rfl, .inl rfl⟩⟩
  | false => exact h
/-- One that is told elsewhere, with a mark of its own. -/
theorem Wri.sum {α : Type} {T : Tell α} {c : Nat} {t t1 : WT} {x : α} {b k : Bool} (h : Wri T c t x t1) (e : T.ok x → k = true) : Wri T c (t.1, b || t.2) x (t1.1, (b || !k) || t1.2) := by
  have h1 := h.mark (b || !k)
  refine Wri.pre (b := k) ?_ e
  have e1 : ((b || t.2) || !k) = ((b || !k) || t.2) := by cases b <;> cases t.2 <;> cases k <;> rfl
  dsimp only
  rw [e1]
  exact h1
theorem ty_low {l : List Ent} {t : WT} {y : Ty} {b : Bool} {n : Int} (h0 : 0 ≤ y.kind) (h4 : y.kind < 4) (hn : n = kindNo y.kind) : Wri (tyT l) 3 (t.1, b || t.2) y ((noteU t 1 [n]).1, (b || !decide (y.name = [])) || (noteU t 1 [n]).2) := by
  subst hn
  have w1k : Wri kindT 1 t y.kind (noteU t 1 [kindNo y.kind]) := Wri.by (p := true) Wri.n1 (by simp) (by simp only [true_iff]; exact ⟨h0, by omega⟩)
  have hok : (tyT l).ok y → decide (y.name = []) = true := fun o => by
    rw [decide_eq_true_eq]
    exact (okTy_of o).2.2.resolve_left (by omega)
  by_cases hnm : y.name = []
  · refine Wri.sum (Wri.by_ (Wri.le (c := 1 + 0) (Wri.dseq w1k ?_) (by omega))) hok
    rw [if_neg (by omega)]
    exact Wri.nil hnm
  · have hl := w1k.1
    refine Wri.nok ?_ (by dsimp only; omega) fun o => hnm (by have := hok o; rwa [decide_eq_true_eq] at this)
    dsimp only
    rw [decide_eq_false hnm]
    cases b <;> rfl
theorem ty_ref {l : List Ent} {t t1 : WT} {y : Ty} {b : Bool} (h4 : y.kind = 4) (h : Wri (clsT l) 2 (noteU t 1 [7]) y.name t1) : Wri (tyT l) 3 (t.1, b || t.2) y (t1.1, (b || !true) || t1.2) := by
  have e7 : kindNo y.kind = 7 := by rw [h4]; rfl
  have w1k : Wri kindT 1 t y.kind (noteU t 1 [7]) := by
    rw [← e7]
    exact Wri.by (p := true) Wri.n1 (by simp) (by simp only [true_iff]; exact ⟨by omega, by omega⟩)
  refine Wri.sum (Wri.by_ (Wri.le (c := 1 + 2) (Wri.dseq w1k ?_) (by omega))) fun _ => rfl
  rw [if_pos h4]
  exact h
theorem ty_no {l : List Ent} {t : WT} {y : Ty} {b : Bool} (h : ¬ (0 ≤ y.kind ∧ y.kind < 5)) : Wri (tyT l) 3 (t.1, b || t.2) y (t.1, true || t.2) :=
  Wri.nok rfl (Nat.le_add_right _ _) fun o => h ⟨(okTy_of o).1, (okTy_of o).2.1⟩

/-- A writer within another one's work. -/
structure Nest (w : World) (base : Nat) (p : Po) (h : Nat) (v : Value) (wl : World) (v' : Value) (t : WT) (z : Nat) (v2 : Value) (t2 : WT) : Prop where
  out : Kr w base p h v wl v' t
  inn : Ri wl base p z v2 t2
  at_ : ∀ q, RHb z v2 q → w.heap.size ≤ q
  sep : ∀ q, RHb z v2 q → ¬ RHb h v' q
  low : base ≤ w.heap.size
section
variable {w wl w' w1 w2 : World} {base h z : Nat} {p : Po} {v v' v'' v2 v3 : Value} {t t' t2 t3 : WT}
theorem Nest.start (k : Kr w base p h v w1 v' t) (hw : base ≤ w.heap.size) (n : New w1 w2) (hz : z = w1.heap.size) (hb : w2.heap[z]? = some (.cells #[p.v, .slice none 0 0, .bool false] 135 (0, 0))) : Nest w base p h v w2 v' t z (.slice none 0 0) ([], false) := by
  subst hz
  have hs := k.mod.size
  have e0 : ∀ q, RHb w1.heap.size (.slice none 0 0) q → q = w1.heap.size := by
    rintro q (e | e)
    · cases e
    · exact e
  refine ⟨k.new n, ⟨hb, ⟨rfl, .inl ⟨rfl, rfl⟩⟩, (fun e => by cases e), k.ri.bw, k.ri.cx.new n⟩, fun q e => by rw [e0 q e]; exact hs, fun q e => k.ri.hi (by rw [e0 q e]; exact Nat.le_refl _), hw⟩
theorem Nest.new (n : Nest w base p h v wl v' t z v2 t2) (m : New wl w') : Nest w base p h v w' v' t z v2 t2 := ⟨n.out.new m, n.inn.new m, n.at_, n.sep, n.low⟩
theorem Ri.rlt {w : World} {base h : Nat} {p : Po} {v : Value} {t : WT} (c : Ri w base p h v t) {q : Nat} (e : RHb h v q) : q < w.heap.size := Nat.lt_of_not_le fun hq => c.hi hq e
theorem Kr.back {w w' : World} {base h : Nat} {p : Po} {v v' : Value} {t : WT} (k : Kr w base p h v w' v' t) {q : Nat} (e : RHb h v' q) : RHb h v q ∨ w.heap.size ≤ q := by
  rcases e with e | e
  · rcases k.st q e.symm with e1 | e1
    · exact .inl (.inl e1.symm)
    · exact .inr e1
  · exact .inl (.inr e)
theorem Nest.must (n : Nest w base p h v wl v' t z v2 t2) (k : Kr wl base p h v' w' v'' t') : Nest w base p h v w' v'' t' z v2 t2 := by
  refine ⟨n.out.then k, n.inn.other k.mod fun q _ e => ⟨n.out.ri.at_ e, fun e2 => n.sep q e2 e⟩, n.at_, fun q e1 e2 => ?_, n.low⟩
  rcases k.back e2 with e | e
  · exact n.sep q e1 e
  · exact n.inn.hi e e1
theorem Nest.act (n : Nest w base p h v wl v' t z v2 t2) (k : Kr wl base p z v2 w' v3 t3) : Nest w base p h v w' v' t z v3 t3 := by
  have hs := n.out.mod.size
  refine ⟨n.out.also k.mod (fun q e => ⟨n.at_ q e, n.sep q e⟩) n.low, k.ri, fun q e => ?_, fun q e => ?_, n.low⟩
  · rcases k.back e with e1 | e1
    · exact n.at_ q e1
    · omega
  · rcases k.back e with e1 | e1
    · exact n.sep q e1
    · exact n.out.ri.hi e1
/-- The inner one's bytes are put behind the outer one's. -/
theorem Nest.add (n : Nest w base p h v wl v' t z v2 t2) (hd : New wl w') (m : Mod (fun b => some b = v'.ownBlock) w' w1) (own : w1.ownsRow base 5 1 v'' (t.1.length + t2.1.length) (bvs t.1 ++ bvs t2.1)) (st : stayed w' v' v'') (ms : Mod (fun b => b = h) w1 w2)
    (hb : w2.heap[h]? = some (.cells #[p.v, v'', .bool t.2] 135 (0, 0))) : Kr w base p h v w2 v'' (t.1 ++ t2.1, t.2) ∧ w2.heap[z]? = some (.cells #[p.v, v2, .bool t2.2] 135 (0, 0)) := by
  have nn := n.new hd
  have k := nn.out.ri.put (bs := t.1 ++ t2.1) m (by rw [List.length_append, bvs_append]; exact own) st ms hb
  refine ⟨nn.out.then k, k.blk nn.inn.blk (n.sep z (.inr rfl))⟩
end
theorem rtypes_ok (base : Nat) (p : Po) (h : Nat) (v : Value) (t : WT) (vl : Value) (xs : List Ty) (b : Bool) (w : World) (c : Ri w base p h v t) (hO : OkPool p.l) (hl : LRep tyR w (RHb h v) vl xs) (hm : t.1.length + (2 + 3 * xs.length) ≤ 1000000000) :
    Calls Tryz.prog 101 #[.pointer (some ⟨h, 0, none⟩), vl, .bool b] w fun e w' => e = .returned (.tuple #[]) ∧ ∃ v' t', Kr w base p h v w' v' t' ∧ Wri (tT b p.l) (2 + 3 * xs.length) t xs t' := by
  obtain ⟨Al, cl, rfl, h43, _⟩ := hl.get tyOk (by decide)
  have hbw := c.bw
  refine enter ok Tryz.func101 rfl rfl rfl ?_
  refine seq_cut (σ := Unit) (fun _ => [(0, .pointer (some ⟨h, 0, none⟩)), (1, .slice Al xs.length cl), (2, .bool b)]) (fun _ w' => Kr w base p h v w' v (t.1, t.2 || !decide (xs.length ≤ 64))) ?_ ?_
  rotate_left
  · intro K hK
    refine call_ (rmust_ok base p h v t (decide ((xs.length : Int) ≤ 64)) w c) ?_
    rintro e w1 ⟨rfl, k1⟩
    refine ⟨_, rfl, ?_⟩
    have e1 : decide ((xs.length : Int) ≤ 64) = decide (xs.length ≤ 64) := decide_eq_decide.2 (by omega)
    rw [e1] at k1
    exact hK () _ _ ⟨rfl, rfl, rfl, trivial⟩ k1
  rintro _ w1 fr1 k1
  refine seq_assign ?_
  obtain ⟨z, hz⟩ : ∃ z, z = w1.heap.size := ⟨_, rfl⟩
  refine seq_cut (σ := Unit) (fun _ => [(0, .pointer (some ⟨h, 0, none⟩)), (1, .slice Al xs.length cl), (2, .bool b), (6, zi 0), (7, .pointer (some ⟨z, 0, none⟩))]) (fun _ w' => Nest w base p h v w' v (t.1, t.2 || !decide (xs.length ≤ 64)) z (.slice none 0 0) ([], false)) ?_ ?_
  rotate_left
  · intro K hK
    refine Exists.intro p.A (Exists.intro p.l.length (Exists.intro p.c (And.intro (cellB k1.ri.blk rfl) ?_)))
    have n2 := New.alloc w1 (.cells #[p.v, .slice none 0 0, .bool false] 135)
    have hb2 := heap_alloc_new w1 (.cells #[p.v, .slice none 0 0, .bool false] 135)
    have nest := Nest.start k1 hbw n2 rfl hb2
    rw [hz] at hK
    exact hK () _ _ ⟨rfl, rfl, rfl, rfl, rfl, trivial⟩ nest
  rintro _ w2 fr2 nest2
  refine seq_cut (σ := List Ty × Value × WT × Bool) (fun s => [(0, .pointer (some ⟨h, 0, none⟩)), (6, zi (s.1.length : Int)), (7, .pointer (some ⟨z, 0, none⟩))]) (fun s w' => ∃ i, Nest w base p h v w' v (t.1, s.2.2.2) z s.2.1 s.2.2.1 ∧ xs.length ≤ i ∧ TyI b p.l t xs i (s.2.2.1.1, s.2.2.2 || s.2.2.1.2) s.1) ?_ ?_
  rotate_left
  · intro K hK
    refine seq_assign ?_
    refine den_loop (σ := Nat × List Ty × Value × WT × Bool) (fun s => [(0, .pointer (some ⟨h, 0, none⟩)), (1, .slice Al xs.length cl), (2, .bool b), (6, zi (s.2.1.length : Int)), (7, .pointer (some ⟨z, 0, none⟩)), (8, zi (s.1 : Int))])
      (fun m s wl => xs.length ≤ m + s.1 ∧ Nest w base p h v wl v (t.1, s.2.2.2.2) z s.2.2.1 s.2.2.2.1 ∧ TyI b p.l t xs s.1 (s.2.2.2.1.1, s.2.2.2.2 || s.2.2.2.1.2) s.2.1) xs.length
      (0, [], .slice none 0 0, ([], false), t.2 || !decide (xs.length ≤ 64)) ⟨rfl, rfl, rfl, rfl, rfl, rfl, trivial⟩ ⟨by dsimp only; omega, nest2, by dsimp only; rw [Bool.or_false]; exact TyI.start⟩ ?_
    rintro m ⟨i, dn, v2, t2, bad⟩ wl frl ⟨hfuel, nl, ti⟩
    dsimp only at hfuel nl ti
    refine seq_cut (σ := Unit) (fun _ => [(0, .pointer (some ⟨h, 0, none⟩)), (1, .slice Al xs.length cl), (2, .bool b), (6, zi (dn.length : Int)), (7, .pointer (some ⟨z, 0, none⟩)), (8, zi (i : Int))]) (fun _ w' => w' = wl ∧ i < xs.length) ?_ ?_
    rotate_left
    · intro K2 hK2
      refine if_p (fun hlt => ?_) (fun hge => ?_)
      · replace hlt : (i : Int) < (xs.length : Int) := hlt
        exact hK2 () _ _ ⟨rfl, rfl, rfl, rfl, rfl, rfl, trivial⟩ ⟨rfl, by omega⟩
      · replace hge : ¬ (i : Int) < (xs.length : Int) := hge
        exact hK (dn, v2, t2, bad) _ _ ⟨rfl, rfl, rfl, trivial⟩ ⟨i, nl, by omega, ti⟩
    rintro _ wy fry ⟨hwy, hi⟩
    obtain rfl := hwy.symm
    have hlt : (i : Int) < (xs.length : Int) := by omega
    obtain ⟨m, rfl⟩ : ∃ m', m = m' + 1 := ⟨m - 1, by omega⟩
    have hdn := ti.1
    have hul := ti.2.2.1
    dsimp only at hul
    obtain ⟨_, _, he, _, gx⟩ := (nl.out.lrep tyOk (by decide) hl).get tyOk (by decide)
    cases he
    obtain ⟨a, cs, ea, hx, hc⟩ := gx i hi
    obtain ⟨y, hy⟩ : ∃ y, y = xs[i] := ⟨_, rfl⟩
    rw [← hy] at hx
    have hx0 := hx
    obtain rfl := hx
    have step : ∀ {u1 : WT}, Wri (tyT p.l) 3 (t2.1, bad || t2.2) y u1 → (b = true → y.kind ≠ 2) → TyI b p.l t xs (i + 1) u1 (dn ++ [y]) := fun q hn => by
      have q' := q
      rw [hy] at q' hn
      have := ti.step hi (by omega) q' hn
      rw [← hy] at this
      exact this
    have long : ∀ {u1 : WT} {k : Bool}, Wri (tyT p.l) 3 (t2.1, bad || t2.2) y u1 → b = true → y.kind = 2 → (k = true ↔ ∃ h : i + 1 < xs.length, xs[i + 1] = ty0) → TyI b p.l t xs (i + 2) (u1.1, u1.2 || !k) (dn ++ [y]) := fun q hb hk hc => by
      subst hb
      rw [hy] at q hk
      have := ti.long hi (by omega) q hk hc
      rw [← hy] at this
      exact this
    have hlen : (dn ++ [y]).length = dn.length + 1 := by simp
    refine seq_cut (σ := Nat × Value × WT × Bool) (fun s => [(0, .pointer (some ⟨h, 0, none⟩)), (1, .slice Al xs.length cl), (2, .bool b), (6, zi ((dn.length + 1 : Nat) : Int)), (7, .pointer (some ⟨z, 0, none⟩)), (8, zi (s.1 : Int))]) (fun s w' => Nest w base p h v w' v (t.1, s.2.2.2) z s.2.1 s.2.2.1 ∧ TyI b p.l t xs (s.1 + 1) (s.2.2.1.1, s.2.2.2 || s.2.2.1.2) (dn ++ [y]) ∧ i ≤ s.1 ∧ s.1 ≤ xs.length) ?_ ?_
    · rintro ⟨j, v3, t3, bad3⟩ w3 fr3 ⟨n3, ti3, hij, hjl⟩
      dsimp only at n3 ti3 hij hjl
      have hinc : Value.int .i64 (IntKind.i64.wrap ((j : Int) + 1)) = .int .i64 ((j + 1 : Nat) : Int) := by
        rw [wrap_i64 (by omega) (by omega)]
        rfl
      exact ⟨m, (j + 1, dn ++ [y], v3, t3, bad3), by omega, ⟨rfl, rfl, rfl, (show zi ((dn.length + 1 : Nat) : Int) = zi ((dn ++ [y]).length : Int) by rw [hlen]), rfl, hinc, trivial⟩, by dsimp only; omega, n3, ti3⟩
    intro K3 hK3
    refine block_ ?_
    obtain ⟨E, hE⟩ : ∃ E, E = wl.heap.size := ⟨_, rfl⟩
    refine seq_cut (σ := Unit) (fun _ => [(0, .pointer (some ⟨h, 0, none⟩)), (1, .slice Al xs.length cl), (2, .bool b), (6, zi (dn.length : Int)), (7, .pointer (some ⟨z, 0, none⟩)), (8, zi (i : Int)), (9, .pointer (some ⟨E, 0, none⟩))]) (fun _ w' => New wl w' ∧ w'.heap[E]? = some (.cells #[zi y.kind, strV y.name] 101 (0, 0))) ?_ ?_
    rotate_left
    · intro K4 hK4
      refine And.intro (by omega) (And.intro hlt ?_)
      refine some_at ea ?_
      refine loadN_row (vs := [zi y.kind, strV y.name]) (fun j u hu => by rw [Int.toNat_natCast]; exact hc j u hu) rfl ?_
      refine And.intro rfl ?_
      refine storeNew (vs := [zi y.kind, strV y.name]) (arr := #[zi 0, .string ⟨#[]⟩]) rfl (tyOk.one hx0) ?_
      intro w5 hb5 n5 s5
      rw [hE] at hK4
      exact hK4 () _ _ ⟨rfl, rfl, rfl, rfl, rfl, rfl, rfl, trivial⟩ ⟨n5, hb5⟩
    rintro _ w5 fr5 ⟨n5, hE5⟩
    have nest5 := nl.new n5
    have hEo : ¬ RHb h v E := nl.out.ri.hi (by omega)
    have hEi : ¬ RHb z v2 E := nl.inn.hi (by omega)
    have hEl : E < w5.heap.size := (Array.getElem?_eq_some_iff.1 hE5).1
    -- a name only where it does
    obtain ⟨okn, hokn⟩ : ∃ okn, okn = (decide (y.kind = 4) || decide (y.name = [])) := ⟨_, rfl⟩
    refine seq_cut (σ := Unit) (fun _ => [(0, .pointer (some ⟨h, 0, none⟩)), (1, .slice Al xs.length cl), (2, .bool b), (6, zi (dn.length : Int)), (7, .pointer (some ⟨z, 0, none⟩)), (8, zi (i : Int)), (9, .pointer (some ⟨E, 0, none⟩))]) (fun _ w' => Nest w base p h v w' v (t.1, bad || !okn) z v2 t2 ∧ w'.heap[E]? = some (.cells #[zi y.kind, strV y.name] 101 (0, 0))) ?_ ?_
    rotate_left
    · intro K4 hK4
      refine Exists.intro y.kind (And.intro (cellB hE5 rfl) ?_)
      refine if_p (fun h4 => ?_) (fun h4 => ?_)
      · replace h4 : y.kind = 4 := h4
        rw [decide_eq_true h4, Bool.true_or] at hokn
        subst hokn
        refine call_ (rmust_ok base p h v (t.1, bad) true w5 nest5.out.ri) ?_
        rintro e w6 ⟨rfl, k6⟩
        refine ⟨_, rfl, ?_⟩
        exact hK4 () _ _ ⟨rfl, rfl, rfl, rfl, rfl, rfl, rfl, trivial⟩ ⟨nest5.must k6, k6.blk hE5 hEo⟩
      · replace h4 : ¬ y.kind = 4 := h4
        rw [decide_eq_false h4, Bool.false_or] at hokn
        refine Exists.intro (⟨y.name.toArray⟩ : ByteArray) (And.intro (cellB hE5 rfl) ?_)
        refine call_ (rmust_ok base p h v (t.1, bad) (decide ((⟨y.name.toArray⟩ : ByteArray) = ⟨#[]⟩)) w5 nest5.out.ri) ?_
        rintro e w6 ⟨rfl, k6⟩
        refine ⟨_, rfl, ?_⟩
        rw [nil_str, ← hokn] at k6
        exact hK4 () _ _ ⟨rfl, rfl, rfl, rfl, rfl, rfl, rfl, trivial⟩ ⟨nest5.must k6, k6.blk hE5 hEo⟩
    rintro _ w6 fr6 ⟨nest6, hE6⟩
    refine seq_cut (σ := Unit) (fun _ => [(0, .pointer (some ⟨h, 0, none⟩)), (1, .slice Al xs.length cl), (2, .bool b), (6, zi ((dn.length + 1 : Nat) : Int)), (7, .pointer (some ⟨z, 0, none⟩)), (8, zi (i : Int)), (9, .pointer (some ⟨E, 0, none⟩))]) (fun _ w' => w' = w6) ?_ ?_
    rotate_left
    · intro K4 hK4
      have hinc : Value.int .i64 (IntKind.i64.wrap ((dn.length : Int) + 1)) = .int .i64 ((dn.length + 1 : Nat) : Int) := by
        rw [wrap_i64 (by omega) (by omega)]
        rfl
      exact hK4 () _ _ ⟨rfl, rfl, rfl, hinc, rfl, rfl, rfl, trivial⟩ rfl
    rintro _ wz frz hwz
    obtain rfl := hwz.symm
    refine seq_cut (σ := Int) (fun k => [(0, .pointer (some ⟨h, 0, none⟩)), (1, .slice Al xs.length cl), (2, .bool b), (6, zi ((dn.length + 1 : Nat) : Int)), (7, .pointer (some ⟨z, 0, none⟩)), (8, zi (i : Int)), (9, .pointer (some ⟨E, 0, none⟩)), (44, zi k)]) (fun k w' => w' = w6 ∧ k = y.kind) ?_ ?_
    rotate_left
    · intro K4 hK4
      refine Exists.intro y.kind (And.intro (cellB hE6 rfl) ?_)
      exact hK4 y.kind _ _ ⟨rfl, rfl, rfl, rfl, rfl, rfl, rfl, rfl, trivial⟩ ⟨rfl, rfl⟩
    rintro kd ww frw ⟨hww, hkd⟩
    obtain rfl := hww.symm
    refine block_ ?_
    have room : t2.1.length + 8 * 1 ≤ 140737488355328 := by omega
    have low : ∀ {n : Int}, 0 ≤ y.kind → y.kind < 4 → n = kindNo y.kind → Wri (tyT p.l) 3 (t2.1, bad || t2.2) y ((noteU t2 1 [n]).1, (bad || !okn) || (noteU t2 1 [n]).2) := fun h0 h4 hn => by
      have e : okn = decide (y.name = []) := by rw [hokn, decide_eq_false (by omega), Bool.false_or]
      rw [e]
      exact ty_low h0 h4 hn
    refine if_p (fun h0 => ?_) (fun h0 => ?_)
    · replace h0 : kd = 0 := h0
      refine call_ (ruL_ok base p z v2 t2 1 [0] 1 w6 nest6.inn rfl (by simp) room) ?_
      rintro e w7 ⟨rfl, v7, k7⟩
      refine ⟨_, rfl, ?_⟩
      exact hK3 (i, v7, _, bad || !okn) _ _ ⟨rfl, rfl, rfl, rfl, rfl, rfl, trivial⟩ ⟨nest6.act k7, step (low (by omega) (by omega) (by rw [← hkd, h0]; rfl)) (fun _ => by omega), Nat.le_refl _, by dsimp only; omega⟩
    replace h0 : ¬ kd = 0 := h0
    refine if_p (fun h1 => ?_) (fun h1 => ?_)
    · replace h1 : kd = 1 := h1
      refine call_ (ruL_ok base p z v2 t2 1 [1] 1 w6 nest6.inn rfl (by simp) room) ?_
      rintro e w7 ⟨rfl, v7, k7⟩
      refine ⟨_, rfl, ?_⟩
      exact hK3 (i, v7, _, bad || !okn) _ _ ⟨rfl, rfl, rfl, rfl, rfl, rfl, trivial⟩ ⟨nest6.act k7, step (low (by omega) (by omega) (by rw [← hkd, h1]; rfl)) (fun _ => by omega), Nat.le_refl _, by dsimp only; omega⟩
    replace h1 : ¬ kd = 1 := h1
    refine if_p (fun h3 => ?_) (fun h3 => ?_)
    · replace h3 : kd = 3 := h3
      refine call_ (ruL_ok base p z v2 t2 1 [5] 1 w6 nest6.inn rfl (by simp) room) ?_
      rintro e w7 ⟨rfl, v7, k7⟩
      refine ⟨_, rfl, ?_⟩
      exact hK3 (i, v7, _, bad || !okn) _ _ ⟨rfl, rfl, rfl, rfl, rfl, rfl, trivial⟩ ⟨nest6.act k7, step (low (by omega) (by omega) (by rw [← hkd, h3]; rfl)) (fun _ => by omega), Nat.le_refl _, by dsimp only; omega⟩
    replace h3 : ¬ kd = 3 := h3
    refine if_p (fun h4 => ?_) (fun h4 => ?_)
    · replace h4 : kd = 4 := h4
      have hk4 : y.kind = 4 := by omega
      have eok : okn = true := by rw [hokn, decide_eq_true hk4, Bool.true_or]
      refine seq_cut (σ := Value) (fun _ => [(0, .pointer (some ⟨h, 0, none⟩)), (1, .slice Al xs.length cl), (2, .bool b), (6, zi ((dn.length + 1 : Nat) : Int)), (7, .pointer (some ⟨z, 0, none⟩)), (8, zi (i : Int)), (9, .pointer (some ⟨E, 0, none⟩))]) (fun v7 w' => Nest w base p h v w' v (t.1, bad || !okn) z v7 (noteU t2 1 [7]) ∧ w'.heap[E]? = some (.cells #[zi y.kind, strV y.name] 101 (0, 0))) ?_ ?_
      rotate_left
      · intro K4 hK4
        refine call_ (ruL_ok base p z v2 t2 1 [7] 1 w6 nest6.inn rfl (by simp) room) ?_
        rintro e w7 ⟨rfl, v7, k7⟩
        refine ⟨_, rfl, ?_⟩
        exact hK4 v7 _ _ ⟨rfl, rfl, rfl, rfl, rfl, rfl, rfl, trivial⟩ ⟨nest6.act k7, k7.blk hE6 hEi⟩
      rintro v7 w7 fr7 ⟨nest7, hE7⟩
      have hle := noteU_le t2 1 [7]
      simp only [List.length_cons, List.length_nil] at hle
      refine Exists.intro (⟨y.name.toArray⟩ : ByteArray) (And.intro (cellB hE7 rfl) ?_)
      refine call_ (rwclass_ok base p z v7 _ y.name w7 nest7.inn hO (by omega)) ?_
      rintro e w8 ⟨rfl, v8, t8, k8, q8⟩
      refine ⟨_, rfl, ?_⟩
      rw [eok] at nest7
      exact hK3 (i, v8, t8, bad || !true) _ _ ⟨rfl, rfl, rfl, rfl, rfl, rfl, trivial⟩ ⟨nest7.act k8, step (ty_ref hk4 q8) (fun _ => by omega), Nat.le_refl _, by dsimp only; omega⟩
    replace h4 : ¬ kd = 4 := h4
    refine if_p (fun h2 => ?_) (fun h2 => ?_)
    · replace h2 : kd = 2 := h2
      have hk2 : y.kind = 2 := by omega
      have q2 := low (n := 4) (by omega) (by omega) (by rw [hk2]; rfl)
      refine seq_cut (σ := Value) (fun _ => [(0, .pointer (some ⟨h, 0, none⟩)), (1, .slice Al xs.length cl), (2, .bool b), (6, zi ((dn.length + 1 : Nat) : Int)), (7, .pointer (some ⟨z, 0, none⟩)), (8, zi (i : Int))]) (fun v7 w' => Nest w base p h v w' v (t.1, bad || !okn) z v7 (noteU t2 1 [4])) ?_ ?_
      rotate_left
      · intro K4 hK4
        refine call_ (ruL_ok base p z v2 t2 1 [4] 1 w6 nest6.inn rfl (by simp) room) ?_
        rintro e w7 ⟨rfl, v7, k7⟩
        refine ⟨_, rfl, ?_⟩
        exact hK4 v7 _ _ ⟨rfl, rfl, rfl, rfl, rfl, rfl, trivial⟩ (nest6.act k7)
      rintro v7 w7 fr7 nest7
      refine if_ (fun hbt => ?_) (fun hbt => ?_)
      rotate_left
      · exact hK3 (i, v7, _, bad || !okn) _ _ ⟨rfl, rfl, rfl, rfl, rfl, rfl, trivial⟩ ⟨nest7, step q2 (fun e => by rw [hbt] at e; cases e), Nat.le_refl _, by dsimp only; omega⟩
      · subst hbt
        have hinc : IntKind.i64.wrap ((i : Int) + 1) = ((i + 1 : Nat) : Int) := by
          rw [wrap_i64 (by omega) (by omega)]
          rfl
        refine seq_cut (σ := Unit) (fun _ => [(0, .pointer (some ⟨h, 0, none⟩)), (1, .slice Al xs.length cl), (2, .bool true), (6, zi ((dn.length + 1 : Nat) : Int)), (7, .pointer (some ⟨z, 0, none⟩)), (8, zi ((i + 1 : Nat) : Int))]) (fun _ w' => w' = w7) ?_ ?_
        rotate_left
        · intro K4 hK4
          exact hK4 () _ _ ⟨rfl, rfl, rfl, rfl, rfl, (show zi (IntKind.i64.wrap ((i : Int) + 1)) = _ by rw [hinc]), trivial⟩ rfl
        rintro _ wv frv hwv
        obtain rfl := hwv.symm
        have q3 : ∀ k : Bool, (k = true ↔ ∃ h : i + 1 < xs.length, xs[i + 1] = ty0) → TyI true p.l t xs (i + 1 + 1) ((noteU t2 1 [4]).1, ((bad || !okn) || !k) || (noteU t2 1 [4]).2) (dn ++ [y]) := fun k hk => by
          have := long q2 rfl hk2 hk
          have e : (((bad || !okn) || (noteU t2 1 [4]).2) || !k) = (((bad || !okn) || !k) || (noteU t2 1 [4]).2) := by cases (bad || !okn) <;> cases (noteU t2 1 [4]).2 <;> cases k <;> rfl
          dsimp only at this
          rw [e] at this
          exact this
        refine if_p (fun hl2 => ?_) (fun hl2 => ?_)
        · replace hl2 : ((i + 1 : Nat) : Int) < (xs.length : Int) := hl2
          have hi2 : i + 1 < xs.length := by omega
          obtain ⟨_, _, he, _, gx2⟩ := (nest7.out.lrep tyOk (by decide) hl).get tyOk (by decide)
          cases he
          obtain ⟨a3, cs3, ea3, hx3, hc3⟩ := gx2 (i + 1) hi2
          obtain ⟨y3, hy3⟩ : ∃ y3, y3 = xs[i + 1] := ⟨_, rfl⟩
          rw [← hy3] at hx3
          obtain rfl := hx3
          refine And.intro (by omega) (And.intro hl2 ?_)
          refine some_at ea3 ?_
          refine loadN_row (vs := [zi y3.kind, strV y3.name]) (fun j u hu => by rw [Int.toNat_natCast]; exact hc3 j u hu) rfl ?_
          refine ty_eql (a := y3) (b := ty0) rfl rfl rfl ?_
          refine call_ (rmust_ok base p h v _ (decide (y3 = ty0)) w7 nest7.out.ri) ?_
          rintro e w8 ⟨rfl, k8⟩
          refine ⟨_, rfl, ?_⟩
          exact hK3 (i + 1, v7, _, _) _ _ ⟨rfl, rfl, rfl, rfl, rfl, rfl, trivial⟩ ⟨nest7.must k8, q3 _ (by rw [decide_eq_true_eq, hy3]; exact ⟨fun e => ⟨hi2, e⟩, fun e => e.2⟩), by dsimp only; omega, by dsimp only; omega⟩
        · replace hl2 : ¬ ((i + 1 : Nat) : Int) < (xs.length : Int) := hl2
          refine call_ (rmust_ok base p h v _ false w7 nest7.out.ri) ?_
          rintro e w8 ⟨rfl, k8⟩
          refine ⟨_, rfl, ?_⟩
          exact hK3 (i + 1, v7, _, _) _ _ ⟨rfl, rfl, rfl, rfl, rfl, rfl, trivial⟩ ⟨nest7.must k8, q3 false ⟨fun e => (by cases e), fun e => absurd e.1 (by omega)⟩, by dsimp only; omega, by dsimp only; omega⟩
    · replace h2 : ¬ kd = 2 := h2
      refine call_ (rmust_ok base p h v _ false w6 nest6.out.ri) ?_
      rintro e w7 ⟨rfl, k7⟩
      refine ⟨_, rfl, ?_⟩
      have q := ty_no (l := p.l) (t := t2) (y := y) (b := bad) (by omega)
      have e : ((bad || !okn) || !false) = true := by simp
      dsimp only at k7
      rw [e] at k7
      exact hK3 (i, v2, t2, true) _ _ ⟨rfl, rfl, rfl, rfl, rfl, rfl, trivial⟩ ⟨nest6.must k7, step q (fun _ => by omega), Nat.le_refl _, by dsimp only; omega⟩
  rintro ⟨dn, v2, t2, bad⟩ w3 fr3 ⟨i, n3, hi, ti⟩
  dsimp only at n3 ti
  have q := ti.done hi rfl
  have hdn := ti.2.1
  have hul := ti.2.2.1
  dsimp only at hul
  -- how many
  refine seq_cut (σ := Value) (fun _ => [(0, .pointer (some ⟨h, 0, none⟩)), (7, .pointer (some ⟨z, 0, none⟩))]) (fun v4 w' => Nest w base p h v w' v4 (noteU (t.1, bad) 2 [(dn.length : Int)]) z v2 t2) ?_ ?_
  rotate_left
  · intro K hK
    refine call_ (ruL_ok base p h v (t.1, bad) 2 [(dn.length : Int)] 1 w3 n3.out.ri rfl (by simp; omega) (by simp; omega)) ?_
    rintro e w4 ⟨rfl, v4, k4⟩
    refine ⟨_, rfl, ?_⟩
    exact hK v4 _ _ ⟨rfl, rfl, trivial⟩ (n3.must k4)
  rintro v4 w4 fr4 n4
  generalize noteU (t.1, bad) 2 [(dn.length : Int)] = t4 at n4 q
  have hq := q.1
  obtain ⟨A4, c4, rfl, _⟩ := own_slice n4.out.ri.own
  obtain ⟨A2, c2, rfl, _⟩ := own_slice n4.inn.own
  refine seq_cut (σ := Value) (fun _ => [(0, .pointer (some ⟨h, 0, none⟩)), (7, .pointer (some ⟨z, 0, none⟩))]) (fun v5 w' => Kr w base p h v w' v5 (t4.1 ++ t2.1, t4.2) ∧ w'.heap[z]? = some (.cells #[p.v, .slice A2 t2.1.length c2, .bool t2.2] 135 (0, 0))) ?_ ?_
  rotate_left
  · intro K hK
    refine draw_ (w := w4) ok (.q 0 (.q 1 (.q 2 (.q 3 (.q 4 (.q 5 (.q 6 (.q 7 (.q 8 (.e 9 (.q 10 (.q 11 (.e 12 .done))))))))))))) [12] (fun w'' : World => w''.heap[h]? = some (.cells #[p.v, .slice A4 t4.1.length c4, .bool t4.2] 135 (0, 0)) ∧ w''.heap[z]? = some (.cells #[p.v, .slice A2 t2.1.length c2, .bool t2.2] 135 (0, 0))) (by kernel_rfl) (by kernel_rfl) (by kernel_rfl) (by kernel_rfl) (by kernel_rfl) ⟨(New.drew w4).blk n4.out.ri.blk, (New.drew w4).blk n4.inn.blk⟩ ?_
    refine Exists.intro A4 (Exists.intro t4.1.length (Exists.intro c4 (And.intro (fun w'' hw => cellB hw.1 rfl) ?_)))
    refine Exists.intro A2 (Exists.intro t2.1.length (Exists.intro c2 (And.intro (fun w'' hw => cellB hw.2 rfl) ?_)))
    have nd := New.drew w4
    have nnd := n4.new nd
    obtain ⟨_, _, he, _, _, row2, _⟩ := own_slice nnd.inn.own
    cases he
    refine eff_app rfl rfl (fun _ _ => rfl) ?_
    refine append2_ ok rfl rfl rfl rfl nnd.out.ri.own rfl rfl row2 (by rw [bvs_length]; exact (Nat.mul_one _).symm) (bvs_one _) (by decide) rfl (by show (t4.1.length + t2.1.length) * 1 ≤ _; simp only [List.length_append] at hq; omega) (by simp only [List.length_append] at hq; omega) nnd.out.ri.bw ?_
    intro A7 c7 w7 own7 mod7 st7
    have hb7 := mod7.blk nnd.out.ri.blk (fun e => nnd.out.ri.off e.symm)
    have hz7 := mod7.blk nnd.inn.blk (fun e => nnd.sep z (.inr rfl) (.inl e))
    refine Exists.intro (fun w'' : World => w''.heap[h]? = some (.cells #[p.v, .slice A4 t4.1.length c4, .bool t4.2] 135 (0, 0)) ∧ w''.heap[z]? = some (.cells #[p.v, .slice A2 t2.1.length c2, .bool t2.2] 135 (0, 0))) ?_
    refine And.intro (fun _ h => h) ?_
    refine And.intro ⟨hb7, hz7⟩ ?_
    refine And.intro ⟨_, cellB hb7 rfl⟩ (And.intro (fzB hb7 _) (force_ ?_))
    refine stK hb7 (show (1 : Nat) < 3 by decide) ?_
    intro w8 hb8 m8 s8
    exact hK (.slice A7 (t4.1.length + t2.1.length) c7) _ _ ⟨rfl, rfl, trivial⟩ (n4.add nd mod7 own7 st7 m8 hb8)
  rintro v5 w5 fr5 ⟨k5, hz5⟩
  refine Exists.intro t2.2 (And.intro (cellB hz5 rfl) ?_)
  refine call_ (rmust_ok base p h v5 _ (!t2.2) w5 k5.ri) ?_
  rintro e w6 ⟨rfl, k6⟩
  refine ⟨_, rfl, ?_⟩
  rw [Bool.not_not] at k6
  exact ⟨rfl, v5, _, k5.then k6, q⟩

end Go.Proofs.YtdcaafldnbcdkaaGreatDoor.Class

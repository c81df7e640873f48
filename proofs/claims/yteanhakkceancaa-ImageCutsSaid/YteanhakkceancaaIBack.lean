/- ImageBack, walked. Printed by genlaws.py. -/
import Derived.Test.YteanhakkceancaaIWorks
import Derived.Test.YteanhakkceancaaIOpen
import Derived.Test.YteanhakkceancaaILight
import Derived.Test.YteanhakkceancaaBase
namespace Go.Proofs.Yteanhakkceancaa.Image
open Go Go.Proofs.Yteanhakkceancaa Go.Proofs.Yteanhakkceancaa.Eng Go.Proofs Go.Proofs.Yteanhakkceancaa.Word Go.Proofs.Yteanhakkceancaa.Fmt
open Go.Proofs.Yteanhakkceancaa.Pool (both own_low)
set_option maxRecDepth 10000

theorem len_val (x : Val) : (valF.enc x).length = 9 := by
  show (enc 1 x.kind ++ enc 8 x.n).length = 9
  rw [List.length_append, enc_length, enc_length]
theorem len_list {α : Type} (F : Fmt α) (l : List α) : ((list 4 Image.w4 F).enc l).length = 4 + csum (fun x => (F.enc x).length) l := by
  show (enc 4 (l.length : Int) ++ l.flatMap F.enc).length = _
  rw [List.length_append, enc_length, List.length_flatMap]
  rfl
theorem len_vals (l : List Val) : (valsF.enc l).length = 4 + 9 * l.length := by
  have h : csum (fun x => (valF.enc x).length) l = csum (fun _ => 9) l := by
    simp only [len_val]
  unfold valsF
  rw [len_list, h, csum_const]
theorem csum_vals (l : List Val) : csum cVal l = 9 * l.length := csum_const 9 l
theorem len_obj (o : Obj) : 6 + 9 * o.words.length ≤ (objF.enc o).length := by
  show _ ≤ ((enc 2 (o.ty.length : Int) ++ o.ty) ++ valsF.enc o.words).length
  rw [List.length_append, List.length_append, enc_length, len_vals]
  omega
theorem len_call (c : Call) : (callF.enc c).length = 40 + 9 * c.locals.length + 9 * c.stack.length := by
  show (enc 8 c.cl ++ (enc 8 c.me ++ (enc 8 c.at_ ++ (enc 8 c.lock ++ (valsF.enc c.locals ++ valsF.enc c.stack))))).length = _
  simp only [List.length_append, enc_length, len_vals]
  omega
theorem len_thr (t : Thr) : (thrF.enc t).length = 28 + csum (fun c => (callF.enc c).length) t.calls := by
  show (enc 8 t.state ++ (enc 8 t.on ++ (enc 8 t.count ++ (list 4 Image.w4 callF).enc t.calls))).length = _
  simp only [List.length_append, enc_length, len_list]
  omega
theorem len_mon (x : Mon) : (monF.enc x).length = 24 := by
  show (enc 8 x.ob ++ (enc 8 x.owner ++ enc 8 x.count)).length = _
  simp only [List.length_append, enc_length]
theorem cost_enc (m : Mach) : cMach m ≤ 50 * (machF.enc m).length := by
  have h0 : (machF.enc m).length = 32 + (intsF.enc m.ins).length + (intsF.enc m.outs).length + (valsF.enc m.statics).length + ((list 4 Image.w4 objF).enc m.objs).length + ((list 4 Image.w4 thrF).enc m.thrs).length + ((list 4 Image.w4 monF).enc m.mons).length := by
    show (enc 8 m.status ++ (enc 8 m.read ++ (enc 8 m.gone ++ (enc 8 m.steps ++ (intsF.enc m.ins ++ (intsF.enc m.outs ++ (valsF.enc m.statics ++ ((list 4 Image.w4 objF).enc m.objs ++ ((list 4 Image.w4 thrF).enc m.thrs ++ (list 4 Image.w4 monF).enc m.mons))))))))).length = _
    simp only [List.length_append, enc_length]
    omega
  have hi : ∀ l : List Int, (intsF.enc l).length = 4 + csum cInt l := fun l => by
    have h : csum (fun x => (n8.enc x).length) l = csum cInt l := by
      show csum (fun x => (enc 8 x).length) l = _
      simp only [enc_length]
      rfl
    unfold intsF
    rw [len_list, h]
  have h1 := hi m.ins
  have h2 := hi m.outs
  have h3 := len_vals m.statics
  have h3' := csum_vals m.statics
  have h4 := len_list objF m.objs
  have h5 := len_list thrF m.thrs
  have h6 := len_list monF m.mons
  have b4 := csum_bound cObj (fun o => (objF.enc o).length) 50 (fun o => by
    have := len_obj o
    show 261 + csum cVal o.words ≤ _
    rw [csum_vals]
    omega) m.objs
  have b5 := csum_bound cThr (fun t => (thrF.enc t).length) 50 (fun t => by
    have hb := csum_bound cCall (fun c => (callF.enc c).length) 50 (fun c => by
      show 40 + csum cVal c.locals + csum cVal c.stack ≤ 50 * (callF.enc c).length
      rw [csum_vals, csum_vals, len_call]
      omega) t.calls
    show 28 + csum cCall t.calls ≤ 50 * (thrF.enc t).length
    rw [len_thr]
    omega) m.thrs
  have b6 := csum_bound cMon (fun x => (monF.enc x).length) 50 (fun x => by
    rw [len_mon]
    show 24 ≤ _
    omega) m.mons
  show 56 + csum cInt m.ins + csum cInt m.outs + csum cVal m.statics + csum cObj m.objs + csum cThr m.thrs + csum cMon m.mons ≤ _
  omega
theorem fine_val {x : Val} (h : valF.ok x) : fVal x := h.2.2.2
theorem fine_obj {x : Obj} (h : objF.ok x) : fObj x := fun y hy => fine_val (h.2.2.2 y hy)
theorem fine_call {x : Call} (h : callF.ok x) : fCall x := ⟨h.2.1.2, h.2.2.1.2, h.2.2.2.1.2, h.2.2.2.2.1.2, fun y hy => fine_val (h.2.2.2.2.2.1.2 y hy), fun y hy => fine_val (h.2.2.2.2.2.2.2 y hy)⟩
theorem fine_thr {x : Thr} (h : thrF.ok x) : fThr x := ⟨h.2.1.2, h.2.2.1.2, h.2.2.2.1.2, fun y hy => fine_call (h.2.2.2.2.2 y hy)⟩
theorem fine_mon {x : Mon} (h : monF.ok x) : fMon x := ⟨h.2.1.2, h.2.2.1.2, h.2.2.2.2⟩
theorem fine_mach {m : Mach} (h : machF.ok m) : fMach m := by
  obtain ⟨_, a, b, c, d, e, f, g, i, j, k⟩ := h
  exact ⟨a.2, b.2, c.2, d.2, fun y hy => (e.2 y hy).2, fun y hy => (f.2 y hy).2, fun y hy => fine_val (g.2 y hy), fun y hy => fine_obj (i.2 y hy), fun y hy => fine_thr (j.2 y hy), fun y hy => fine_mon (k.2 y hy)⟩
theorem err_ok {m : Mach} (h : errOf m = 0) : machF.ok m ∧ (machF.enc m).length ≤ most := by
  unfold errOf at h
  split at h
  · rename_i ho
    split at h
    · rename_i hl
      exact ⟨ho, hl⟩
    · cases h
  · cases h
/-- What was read may be told. -/
theorem parsed_fine {bs : List UInt8} {m : Mach} (h : parseM bs = some m) : fMach m ∧ cMach m ≤ 1000000000 ∧ errOf m = 0 ∧ bytesOf m = bs := by
  obtain ⟨h1, h2⟩ := parse_back h
  obtain ⟨ho, hl⟩ := err_ok h1
  refine ⟨fine_mach ho, ?_, h1, h2⟩
  have := cost_enc m
  unfold most at hl
  omega
theorem perr_some {bs : List UInt8} {m : Mach} (h : parseM bs = some m) : perr bs = 0 := by
  unfold perr
  rw [h]
theorem perr_none {bs : List UInt8} (h : parseM bs = none) : perr bs = 210 := by
  unfold perr
  rw [h]
theorem bytes_most (m : Mach) : (bytesOf m).length ≤ most := by
  unfold bytesOf
  split
  · rename_i h
    exact h.2
  · simp
theorem ImageBack_ok (cs0 : List Value) (m : Mach) (S : Nat → Prop) (A : Option Addr) (n c : Nat) (bs : List UInt8) (w : World) (hx : machR w S cs0 m) (hf : fMach m) (hn : n = bs.length) (hr : Row w A (bvs bs)) (hc : n ≤ c) (hc2 : c ≤ 9223372036854775807) :
    Calls Try.prog 5 #[.agg cs0.toArray, .slice A n c] w fun e w' => e = .returned (.bool true) ∧ New w w' := by
  subst hn
  have hx0 := hx
  obtain ⟨_, _, _, _, _, _, rfl, LO1, LT1, LH1, LM1, LI1, LU1⟩ := hx
  obtain ⟨O1, o1, _, rfl, _⟩ := LO1
  obtain ⟨T1, t1, _, rfl, _⟩ := LT1
  obtain ⟨H1, h1, _, rfl, _⟩ := LH1
  obtain ⟨M1, m1, _, rfl, _⟩ := LM1
  obtain ⟨I1, i1, _, rfl, _⟩ := LI1
  obtain ⟨U1, u1, _, rfl, _⟩ := LU1
  have hxw : ∀ {w' : World}, New w w' → machR w' S [zi m.status, .slice O1 m.objs.length o1, .slice T1 m.statics.length t1, .slice H1 m.thrs.length h1, .slice M1 m.mons.length m1, zi m.read, .slice I1 m.ins.length i1, .slice U1 m.outs.length u1, zi m.gone, zi m.steps] m := fun n => machOk.mod hx0 n.mod
  refine enter ok Try.func5 rfl rfl rfl ?_
  refine seq_cut (σ := Unit) (fun _ => [(1, .slice A bs.length c), (2, .pointer (some ⟨w.heap.size, 0, none⟩))]) (fun _ w' => New w w' ∧ w'.heap[w.heap.size]? = some (.cells #[zi m.status, .slice O1 m.objs.length o1, .slice T1 m.statics.length t1, .slice H1 m.thrs.length h1, .slice M1 m.mons.length m1, zi m.read, .slice I1 m.ins.length i1, .slice U1 m.outs.length u1, zi m.gone, zi m.steps] 28 (0, 0))) ?_ ?_
  rotate_left
  · intro K hK
    exact hK () _ _ ⟨rfl, rfl, trivial⟩ ⟨New.alloc w _, heap_alloc_new w (.cells #[zi m.status, .slice O1 m.objs.length o1, .slice T1 m.statics.length t1, .slice H1 m.thrs.length h1, .slice M1 m.mons.length m1, zi m.read, .slice I1 m.ins.length i1, .slice U1 m.outs.length u1, zi m.gone, zi m.steps] 28)⟩
  rintro _ w1 fr1 ⟨n1, hM1⟩
  refine seq_cut (σ := Unit) (fun _ => [(1, .slice A bs.length c), (2, .pointer (some ⟨w.heap.size, 0, none⟩))]) (fun _ w' => New w w' ∧ w'.heap[w.heap.size]? = some (.cells #[zi m.status, .slice O1 m.objs.length o1, .slice T1 m.statics.length t1, .slice H1 m.thrs.length h1, .slice M1 m.mons.length m1, zi m.read, .slice I1 m.ins.length i1, .slice U1 m.outs.length u1, zi m.gone, zi m.steps] 28 (0, 0))) ?_ ?_
  rotate_left
  · intro K hK
    refine call_ (works_ok w1) ?_
    rintro e w2 ⟨rfl, n2⟩
    refine ⟨_, rfl, ?_⟩
    exact hK () _ _ ⟨rfl, rfl, trivial⟩ ⟨n1.trans n2, n2.blk hM1⟩
  rintro _ w2 fr2 ⟨n2, hM2⟩
  refine seq_cut (σ := Unit) (fun _ => [(1, .slice A bs.length c), (2, .pointer (some ⟨w.heap.size, 0, none⟩))]) (fun _ w' => New w w' ∧ w'.heap[w.heap.size]? = some (.cells #[zi m.status, .slice O1 m.objs.length o1, .slice T1 m.statics.length t1, .slice H1 m.thrs.length h1, .slice M1 m.mons.length m1, zi m.read, .slice I1 m.ins.length i1, .slice U1 m.outs.length u1, zi m.gone, zi m.steps] 28 (0, 0)) ∧ cMach m ≤ 1000000 ∧ bs.length ≤ 20000) ?_ ?_
  rotate_left
  · intro K hK
    refine loadN_row (vs := [zi m.status, .slice O1 m.objs.length o1, .slice T1 m.statics.length t1, .slice H1 m.thrs.length h1, .slice M1 m.mons.length m1, zi m.read, .slice I1 m.ins.length i1, .slice U1 m.outs.length u1, zi m.gone, zi m.steps]) (rowB hM2) rfl ?_
    refine call_ (light_ok [zi m.status, .slice O1 m.objs.length o1, .slice T1 m.statics.length t1, .slice H1 m.thrs.length h1, .slice M1 m.mons.length m1, zi m.read, .slice I1 m.ins.length i1, .slice U1 m.outs.length u1, zi m.gone, zi m.steps] m S w2 (hxw n2)) ?_
    rintro e w3 ⟨b, rfl, hb, n3⟩
    refine ⟨_, rfl, ?_⟩
    cases b with
    | false => exact ⟨rfl, n2.trans n3⟩
    | true =>
      refine if_p (fun hl => ?_) (fun hl => ?_)
      · exact ⟨rfl, n2.trans n3⟩
      · replace hl : ¬ (20000 : Int) < (bs.length : Int) := hl
        exact hK () _ _ ⟨rfl, rfl, trivial⟩ ⟨n2.trans n3, n3.blk hM2, hb rfl, by omega⟩
  rintro _ w3 fr3 ⟨n3, hM3, hcost, hlen⟩
  -- a machine, told and read
  refine seq_cut (σ := Unit) (fun _ => [(1, .slice A bs.length c)]) (fun _ w' => New w w') ?_ ?_
  rotate_left
  · intro K hK
    refine seq_cut (σ := (Option Addr × Nat) × Int) (fun t => [(1, .slice A bs.length c), (2, .pointer (some ⟨w.heap.size, 0, none⟩)), (5, .slice t.1.1 (bytesOf m).length t.1.2), (6, zi t.2)]) (fun t w' => New w w' ∧ w'.heap[w.heap.size]? = some (.cells #[zi m.status, .slice O1 m.objs.length o1, .slice T1 m.statics.length t1, .slice H1 m.thrs.length h1, .slice M1 m.mons.length m1, zi m.read, .slice I1 m.ins.length i1, .slice U1 m.outs.length u1, zi m.gone, zi m.steps] 28 (0, 0)) ∧ t.2 = errOf m ∧ Row w' t.1.1 (bvs (bytesOf m)) ∧ (bytesOf m).length ≤ t.1.2 ∧ t.1.2 ≤ 9223372036854775807) ?_ ?_
    rotate_left
    · intro K2 hK2
      refine loadN_row (vs := [zi m.status, .slice O1 m.objs.length o1, .slice T1 m.statics.length t1, .slice H1 m.thrs.length h1, .slice M1 m.mons.length m1, zi m.read, .slice I1 m.ins.length i1, .slice U1 m.outs.length u1, zi m.gone, zi m.steps]) (rowB hM3) rfl ?_
      refine call_ (Bytes_ok [zi m.status, .slice O1 m.objs.length o1, .slice T1 m.statics.length t1, .slice H1 m.thrs.length h1, .slice M1 m.mons.length m1, zi m.read, .slice I1 m.ins.length i1, .slice U1 m.outs.length u1, zi m.gone, zi m.steps] m S w3 (hxw n3) hf (by omega)) ?_
      rintro e w4 ⟨A4, c4, rfl, row4, h1, h2, n4⟩
      refine ⟨_, rfl, ?_⟩
      exact hK2 ((A4, c4), errOf m) _ _ ⟨rfl, rfl, rfl, rfl, trivial⟩ ⟨n3.trans n4, n4.blk hM3, rfl, row4, h1, h2⟩
    rintro ⟨⟨A4, c4⟩, er⟩ w4 fr4 ⟨n4, hM4, her, row4, hc4, hd4⟩
    dsimp only at her row4 hc4 hd4
    refine if_p (fun h0 => ?_) (fun h0 => ?_)
    · replace h0 : er = 0 := h0
      have hpar : parseM (bytesOf m) = some m := (parse_bytes (her.symm.trans h0)).1
      have hbm := bytes_most m
      unfold most at hbm
      refine call_ (Parse_ok A4 _ c4 (bytesOf m) w4 rfl row4 hc4 hd4 (by omega)) ?_
      rintro e w5 ⟨cs, rfl, hy, n5⟩
      rw [hpar] at hy
      replace hy : machR w5 (fun b => b < w4.heap.size) cs m := hy
      have hy0 := hy
      obtain ⟨_, _, _, _, _, _, rfl, LO2, LT2, LH2, LM2, LI2, LU2⟩ := hy
      obtain ⟨O2, o2, _, rfl, _⟩ := LO2
      obtain ⟨T2, t2, _, rfl, _⟩ := LT2
      obtain ⟨H2, h2, _, rfl, _⟩ := LH2
      obtain ⟨M2, m2, _, rfl, _⟩ := LM2
      obtain ⟨I2, i2, _, rfl, _⟩ := LI2
      obtain ⟨U2, u2, _, rfl, _⟩ := LU2
      refine ⟨_, rfl, ?_⟩
      refine And.intro rfl ?_
      refine storeNew (vs := [zi m.status, .slice O2 m.objs.length o2, .slice T2 m.statics.length t2, .slice H2 m.thrs.length h2, .slice M2 m.mons.length m2, zi m.read, .slice I2 m.ins.length i2, .slice U2 m.outs.length u2, zi m.gone, zi m.steps]) (arr := #[zi 0, .slice none 0 0, .slice none 0 0, .slice none 0 0, .slice none 0 0, zi 0, .slice none 0 0, .slice none 0 0, zi 0, zi 0]) rfl (machOk.one hy0) ?_
      intro w6 hb6 n6 s6
      have hpe := perr_some hpar
      generalize perr (bytesOf m) = pe at hpe
      refine if_n (fun h => absurd hpe h) (fun _ => ?_)
      refine loadN_row (vs := [zi m.status, .slice O2 m.objs.length o2, .slice T2 m.statics.length t2, .slice H2 m.thrs.length h2, .slice M2 m.mons.length m2, zi m.read, .slice I2 m.ins.length i2, .slice U2 m.outs.length u2, zi m.gone, zi m.steps]) (rowB hb6) rfl ?_
      refine loadN_row (vs := [zi m.status, .slice O1 m.objs.length o1, .slice T1 m.statics.length t1, .slice H1 m.thrs.length h1, .slice M1 m.mons.length m1, zi m.read, .slice I1 m.ins.length i1, .slice U1 m.outs.length u1, zi m.gone, zi m.steps]) (rowB ((n5.trans n6).blk hM4)) rfl ?_
      have n46 := n4.trans (n5.trans n6)
      refine call_ (SameMachine_ok [zi m.status, .slice O2 m.objs.length o2, .slice T2 m.statics.length t2, .slice H2 m.thrs.length h2, .slice M2 m.mons.length m2, zi m.read, .slice I2 m.ins.length i2, .slice U2 m.outs.length u2, zi m.gone, zi m.steps] [zi m.status, .slice O1 m.objs.length o1, .slice T1 m.statics.length t1, .slice H1 m.thrs.length h1, .slice M1 m.mons.length m1, zi m.read, .slice I1 m.ins.length i1, .slice U1 m.outs.length u1, zi m.gone, zi m.steps] m (fun b => b < w4.heap.size) S w6 (machOk.mod hy0 n6.mod) (hxw n46)) ?_
      rintro e w7 ⟨rfl, n7⟩
      refine ⟨_, rfl, ?_⟩
      exact hK () _ _ ⟨rfl, trivial⟩ (n46.trans n7)
    · exact hK () _ _ ⟨rfl, trivial⟩ n4
  rintro _ w4 fr4 n4
  -- bytes, read and told
  refine seq_cut (σ := Nat × Int) (fun t => [(1, .slice A bs.length c), (9, .pointer (some ⟨t.1, 0, none⟩)), (10, zi t.2)]) (fun t w' => New w w' ∧ t.2 = perr bs ∧ ∃ cs, w'.heap[t.1]? = some (.cells cs.toArray 28 (0, 0)) ∧ machR w' (fun _ => False) cs ((parseM bs).getD void)) ?_ ?_
  rotate_left
  · intro K hK
    refine call_ (Parse_ok A _ c bs w4 rfl (hr.new n4) hc hc2 (by omega)) ?_
    rintro e w5 ⟨cs, rfl, hy, n5⟩
    obtain ⟨y, hyy⟩ : ∃ y, y = (parseM bs).getD void := ⟨_, rfl⟩
    rw [← hyy] at hy hK
    have hy0 := hy
    obtain ⟨_, _, _, _, _, _, rfl, LO2, LT2, LH2, LM2, LI2, LU2⟩ := hy
    obtain ⟨O2, o2, _, rfl, _⟩ := LO2
    obtain ⟨T2, t2, _, rfl, _⟩ := LT2
    obtain ⟨H2, h2, _, rfl, _⟩ := LH2
    obtain ⟨M2, m2, _, rfl, _⟩ := LM2
    obtain ⟨I2, i2, _, rfl, _⟩ := LI2
    obtain ⟨U2, u2, _, rfl, _⟩ := LU2
    refine ⟨_, rfl, ?_⟩
    refine And.intro rfl ?_
    refine storeNew (vs := [zi y.status, .slice O2 y.objs.length o2, .slice T2 y.statics.length t2, .slice H2 y.thrs.length h2, .slice M2 y.mons.length m2, zi y.read, .slice I2 y.ins.length i2, .slice U2 y.outs.length u2, zi y.gone, zi y.steps]) (arr := #[zi 0, .slice none 0 0, .slice none 0 0, .slice none 0 0, .slice none 0 0, zi 0, .slice none 0 0, .slice none 0 0, zi 0, zi 0]) rfl (machOk.one hy0) ?_
    intro w6 hb6 n6 s6
    exact hK (w5.heap.size, perr bs) _ _ ⟨rfl, rfl, rfl, trivial⟩ ⟨(n4.trans n5).trans n6, rfl, _, hb6, machOk.weak (machOk.mod hy0 n6.mod) fun b _ e => e.elim⟩
  rintro ⟨X, e1⟩ w5 fr5 ⟨n5, he1, cs, hb5, hy⟩
  dsimp only at he1 hb5
  refine if_n (fun hne => ?_) (fun h0 => ?_)
  · replace hne : ¬ e1 = 0 := hne
    have hpar : parseM bs = none := by
      cases h : parseM bs with
      | none => rfl
      | some y => exact absurd (he1.trans (perr_some h)) hne
    rw [hpar] at hy
    replace hy : machR w5 (fun _ => False) cs void := hy
    have hy0 := hy
    obtain ⟨_, _, _, _, _, _, rfl, LO2, LT2, LH2, LM2, LI2, LU2⟩ := hy
    obtain ⟨O2, o2, _, rfl, _⟩ := LO2
    obtain ⟨T2, t2, _, rfl, _⟩ := LT2
    obtain ⟨H2, h2, _, rfl, _⟩ := LH2
    obtain ⟨M2, m2, _, rfl, _⟩ := LM2
    obtain ⟨I2, i2, _, rfl, _⟩ := LI2
    obtain ⟨U2, u2, _, rfl, _⟩ := LU2
    refine loadN_row (vs := [zi void.status, .slice O2 void.objs.length o2, .slice T2 void.statics.length t2, .slice H2 void.thrs.length h2, .slice M2 void.mons.length m2, zi void.read, .slice I2 void.ins.length i2, .slice U2 void.outs.length u2, zi void.gone, zi void.steps]) (rowB hb5) rfl ?_
    refine call_ (SameMachine_ok [zi void.status, .slice O2 void.objs.length o2, .slice T2 void.statics.length t2, .slice H2 void.thrs.length h2, .slice M2 void.mons.length m2, zi void.read, .slice I2 void.ins.length i2, .slice U2 void.outs.length u2, zi void.gone, zi void.steps] [zi 0, .slice none 0 0, .slice none 0 0, .slice none 0 0, .slice none 0 0, zi 0, .slice none 0 0, .slice none 0 0, zi 0, zi 0] void (fun _ => False) (fun _ => False) w5 hy0 (void_rep w5 _)) ?_
    rintro e w6 ⟨rfl, n6⟩
    refine ⟨_, rfl, ?_⟩
    exact ⟨rfl, n5.trans n6⟩
  replace h0 : e1 = 0 := h0
  obtain ⟨y, hpar⟩ : ∃ y, parseM bs = some y := by
    cases h : parseM bs with
    | none =>
      rw [perr_none h] at he1
      rw [he1] at h0
      cases h0
    | some y => exact ⟨y, rfl⟩
  rw [hpar] at hy
  replace hy : machR w5 (fun _ => False) cs y := hy
  obtain ⟨f1, f2, f3, f4⟩ := parsed_fine hpar
  have hy0 := hy
  obtain ⟨_, _, _, _, _, _, rfl, LO2, LT2, LH2, LM2, LI2, LU2⟩ := hy
  obtain ⟨O2, o2, _, rfl, _⟩ := LO2
  obtain ⟨T2, t2, _, rfl, _⟩ := LT2
  obtain ⟨H2, h2, _, rfl, _⟩ := LH2
  obtain ⟨M2, m2, _, rfl, _⟩ := LM2
  obtain ⟨I2, i2, _, rfl, _⟩ := LI2
  obtain ⟨U2, u2, _, rfl, _⟩ := LU2
  refine seq_cut (σ := (Option Addr × Nat × Nat) × Int) (fun t => [(1, .slice A bs.length c), (11, .slice t.1.1 t.1.2.1 t.1.2.2), (12, zi t.2)]) (fun t w' => New w w' ∧ t.2 = 0 ∧ t.1.2.1 = bs.length ∧ Row w' t.1.1 (bvs bs)) ?_ ?_
  rotate_left
  · intro K hK
    refine loadN_row (vs := [zi y.status, .slice O2 y.objs.length o2, .slice T2 y.statics.length t2, .slice H2 y.thrs.length h2, .slice M2 y.mons.length m2, zi y.read, .slice I2 y.ins.length i2, .slice U2 y.outs.length u2, zi y.gone, zi y.steps]) (rowB hb5) rfl ?_
    refine call_ (Bytes_ok [zi y.status, .slice O2 y.objs.length o2, .slice T2 y.statics.length t2, .slice H2 y.thrs.length h2, .slice M2 y.mons.length m2, zi y.read, .slice I2 y.ins.length i2, .slice U2 y.outs.length u2, zi y.gone, zi y.steps] y (fun _ => False) w5 hy0 f1 f2) ?_
    rintro e w6 ⟨A6, c6, rfl, row6, h1, h2, n6⟩
    refine ⟨_, rfl, ?_⟩
    rw [f4] at row6
    exact hK ((A6, (bytesOf y).length, c6), errOf y) _ _ ⟨rfl, rfl, rfl, trivial⟩ ⟨n5.trans n6, f3, by rw [f4], row6⟩
  rintro ⟨⟨A6, q6, c6⟩, e6⟩ w6 fr6 ⟨n6, he6, hq6, row6⟩
  dsimp only at he6 hq6 row6
  refine if_p (fun _ => ?_) (fun h => absurd he6 h)
  refine call_ (Base.SameBytes_ok A6 A q6 c6 _ c bs bs w6 hq6 rfl row6 (hr.new n6)) ?_
  rintro e w7 ⟨rfl, hw7⟩
  obtain rfl := hw7.symm
  refine ⟨_, rfl, ?_⟩
  exact ⟨(show Ending.returned (.bool (decide (bs = bs))) = .returned (.bool true) by rw [decide_eq_true rfl]), n6⟩

end Go.Proofs.Yteanhakkceancaa.Image

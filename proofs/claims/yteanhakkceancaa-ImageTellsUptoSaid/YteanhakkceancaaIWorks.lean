/- larchlaw21.works, walked. Printed by genlaws.py. -/
import Derived.Test.YteanhakkceancaaIWrite3
namespace Go.Proofs.Yteanhakkceancaa.Image
open Go Go.Proofs.Yteanhakkceancaa Go.Proofs.Yteanhakkceancaa.Eng Go.Proofs Go.Proofs.Yteanhakkceancaa.Word Go.Proofs.Yteanhakkceancaa.Fmt
open Go.Proofs.Yteanhakkceancaa.Pool (both own_low)
set_option maxRecDepth 10000

theorem n8_zero : n8.ok 0 := ⟨rfl, by unfold i64; omega⟩
theorem len_zero {α : Type} (F : Fmt α) : (list 4 Image.w4 F).ok [] := ⟨⟨fits4 (n := ([] : List α).length) (by simp), by unfold i64; simp⟩, fun _ h => (by cases h)⟩
theorem void_ok : machF.ok void := ⟨rfl, n8_zero, n8_zero, n8_zero, n8_zero, len_zero _, len_zero _, len_zero _, len_zero _, len_zero _, len_zero _⟩
theorem void_len : (machF.enc void).length = 56 := by rfl
theorem void_err : errOf void = 0 := by
  unfold errOf
  rw [if_pos void_ok, if_pos (by rw [void_len]; decide)]
theorem void_bytes : (bytesOf void).length = 56 := by rw [(parse_bytes void_err).2, void_len]
theorem void_fine : fMach void := by
  have h : i64 0 := by unfold i64; omega
  exact ⟨h, h, h, h, fun _ h => (by cases h), fun _ h => (by cases h), fun _ h => (by cases h), fun _ h => (by cases h), fun _ h => (by cases h), fun _ h => (by cases h)⟩
theorem works_ok (w : World) : Calls Try.prog 11 #[] w fun e w' => e = .returned (.bool true) ∧ New w w' := by
  refine enter ok Try.func11 rfl rfl rfl ?_
  refine seq_assign ?_
  refine seq_cut (σ := (Option Addr × Nat × Nat) × Int) (fun t => [(1, .slice t.1.1 t.1.2.1 t.1.2.2), (2, zi t.2)]) (fun t w' => New w w' ∧ t.2 = 0 ∧ t.1.2.1 = (bytesOf void).length ∧ Row w' t.1.1 (bvs (bytesOf void)) ∧ (bytesOf void).length ≤ t.1.2.2 ∧ t.1.2.2 ≤ 9223372036854775807) ?_ ?_
  rotate_left
  · intro K hK
    refine call_ (Bytes_ok [zi 0, .slice none 0 0, .slice none 0 0, .slice none 0 0, .slice none 0 0, zi 0, .slice none 0 0, .slice none 0 0, zi 0, zi 0] void (fun _ => False) w (void_rep w _) void_fine (by decide)) ?_
    rintro e w1 ⟨A1, c1, rfl, row1, h1, h2, n1⟩
    refine ⟨_, rfl, ?_⟩
    exact hK ((A1, (bytesOf void).length, c1), errOf void) _ _ ⟨rfl, rfl, trivial⟩ ⟨n1, void_err, rfl, row1, h1, h2⟩
  rintro ⟨⟨A1, q1, c1⟩, er⟩ w1 fr1 ⟨n1, her, hq1, row1, h1, h2⟩
  dsimp only at her hq1 row1 h1 h2
  have hpar : parseM (bytesOf void) = some void := (parse_bytes void_err).1
  have hperr : perr (bytesOf void) = 0 := by
    unfold perr
    rw [hpar]
  refine seq_cut (σ := Nat × Int) (fun t => [(1, .slice A1 q1 c1), (2, zi er), (3, .pointer (some ⟨t.1, 0, none⟩)), (4, zi t.2)]) (fun t w' => New w w' ∧ t.2 = 0 ∧ ∃ cs, w'.heap[t.1]? = some (.cells cs.toArray 28 (0, 0)) ∧ machR w' (fun _ => False) cs void) ?_ ?_
  rotate_left
  · intro K hK
    refine call_ (Parse_ok A1 q1 c1 (bytesOf void) w1 hq1 row1 h1 h2 (by rw [void_bytes]; decide)) ?_
    rintro e w2 ⟨cs, rfl, hm, n2⟩
    rw [hpar] at hm
    replace hm : machR w2 (fun b => b < w1.heap.size) cs void := hm
    have hm0 := hm
    obtain ⟨_, _, _, _, _, _, rfl, LO1, LT1, LH1, LM1, LI1, LU1⟩ := hm
    obtain ⟨O1, o1, _, rfl, _⟩ := LO1
    obtain ⟨T1, t1, _, rfl, _⟩ := LT1
    obtain ⟨H1, h1, _, rfl, _⟩ := LH1
    obtain ⟨M1, m1, _, rfl, _⟩ := LM1
    obtain ⟨I1, i1, _, rfl, _⟩ := LI1
    obtain ⟨U1, u1, _, rfl, _⟩ := LU1
    refine ⟨_, rfl, ?_⟩
    refine And.intro rfl ?_
    refine storeNew (vs := [zi void.status, .slice O1 void.objs.length o1, .slice T1 void.statics.length t1, .slice H1 void.thrs.length h1, .slice M1 void.mons.length m1, zi void.read, .slice I1 void.ins.length i1, .slice U1 void.outs.length u1, zi void.gone, zi void.steps]) (arr := #[zi 0, .slice none 0 0, .slice none 0 0, .slice none 0 0, .slice none 0 0, zi 0, .slice none 0 0, .slice none 0 0, zi 0, zi 0]) rfl (machOk.one hm0) ?_
    intro w3 hb3 n3 s3
    exact hK (w2.heap.size, perr (bytesOf void)) _ _ ⟨rfl, rfl, rfl, rfl, trivial⟩ ⟨(n1.trans n2).trans n3, hperr, _, hb3, machOk.weak (machOk.mod hm0 n3.mod) fun b _ e => e.elim⟩
  rintro ⟨X, e2⟩ w2 fr2 ⟨n2, he2, cs, hb2, hm⟩
  dsimp only at he2 hb2
  have hm0 := hm
  obtain ⟨_, _, _, _, _, _, rfl, LO1, LT1, LH1, LM1, LI1, LU1⟩ := hm
  obtain ⟨O1, o1, _, rfl, _⟩ := LO1
  obtain ⟨T1, t1, _, rfl, _⟩ := LT1
  obtain ⟨H1, h1, _, rfl, _⟩ := LH1
  obtain ⟨M1, m1, _, rfl, _⟩ := LM1
  obtain ⟨I1, i1, _, rfl, _⟩ := LI1
  obtain ⟨U1, u1, _, rfl, _⟩ := LU1
  refine if_p (fun _ => ?_) (fun h => absurd her h)
  refine if_p (fun _ => ?_) (fun h => absurd (show (q1 : Int) = 56 by rw [hq1, void_bytes]; rfl) h)
  refine if_p (fun _ => ?_) (fun h => absurd he2 h)
  refine loadN_row (vs := [zi void.status, .slice O1 void.objs.length o1, .slice T1 void.statics.length t1, .slice H1 void.thrs.length h1, .slice M1 void.mons.length m1, zi void.read, .slice I1 void.ins.length i1, .slice U1 void.outs.length u1, zi void.gone, zi void.steps]) (rowB hb2) rfl ?_
  refine call_ (SameMachine_ok [zi void.status, .slice O1 void.objs.length o1, .slice T1 void.statics.length t1, .slice H1 void.thrs.length h1, .slice M1 void.mons.length m1, zi void.read, .slice I1 void.ins.length i1, .slice U1 void.outs.length u1, zi void.gone, zi void.steps] [zi 0, .slice none 0 0, .slice none 0 0, .slice none 0 0, .slice none 0 0, zi 0, .slice none 0 0, .slice none 0 0, zi 0, zi 0] void (fun _ => False) (fun _ => False) w2 hm0 (void_rep w2 _)) ?_
  rintro e w3 ⟨rfl, n3⟩
  refine ⟨_, rfl, ?_⟩
  refine call_ (Pages_ok 257 w3 (by decide)) ?_
  rintro e w4 ⟨rfl, hw4⟩
  obtain rfl := hw4.symm
  refine ⟨_, rfl, ?_⟩
  exact ⟨rfl, n2.trans n3⟩

end Go.Proofs.Yteanhakkceancaa.Image

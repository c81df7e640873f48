/- The document's answer for codes, walked: an instruction. Printed by genref4.py. -/
import Derived.Test.YtcpeekeiflglpaaCRef3
namespace Go.Proofs.Ytcpeekeiflglpaa.Code
open Go Go.Proofs.Ytcpeekeiflglpaa Go.Proofs.Ytcpeekeiflglpaa.Eng Go.Proofs Go.Proofs.Ytcpeekeiflglpaa.Word Go.Proofs.Ytcpeekeiflglpaa.Fmt
open Go.Proofs.Ytcpeekeiflglpaa.Pool (both own_low)
set_option maxRecDepth 10000

theorem ins_parse (p : Nat) (x : List UInt8) : (insF p).parse x = (numP 1 false x).bind fun r => (opF p r.1).parse r.2 := by
  show Option.map _ (Option.bind (numP 1 false x) fun r => Option.map (fun s => ((r.1, s.1), s.2)) ((opF p r.1).parse r.2)) = _
  cases numP 1 false x with
  | none => rfl
  | some r =>
    simp only [Option.bind_some]
    cases (opF p r.1).parse r.2 <;> rfl
section
variable {p : Nat} {op : Int} {x : List UInt8}
theorem op_0 (h : form op = 0) : (opF p op).parse x = none := by unfold opF; rw [h]; rfl
theorem op_1 (h : form op = 1) : (opF p op).parse x = some (⟨p, op, 0, 0, []⟩, x) := by unfold opF; rw [h]; rfl
theorem op_2 (h : form op = 2) : (opF p op).parse x = (numP 1 true x).map fun r => (⟨p, op, r.1, 0, []⟩, r.2) := by unfold opF; rw [h]; rfl
theorem op_3 (h : form op = 3) : (opF p op).parse x = (numP 2 true x).map fun r => (⟨p, op, r.1, 0, []⟩, r.2) := by unfold opF; rw [h]; rfl
theorem op_4 (h : form op = 4) : (opF p op).parse x = (numP 1 false x).map fun r => (⟨p, op, r.1, 0, []⟩, r.2) := by unfold opF; rw [h]; rfl
theorem op_5 (h : form op = 5) : (opF p op).parse x = (numP 2 false x).map fun r => (⟨p, op, r.1, 0, []⟩, r.2) := by unfold opF; rw [h]; rfl
theorem op_6 (h : form op = 6) : (opF p op).parse x = (numP 1 false x).bind fun r => (numP 1 true r.2).map fun s => (⟨p, op, r.1, s.1, []⟩, s.2) := by
  unfold opF
  rw [h]
  show Option.map _ (Option.bind (numP 1 false x) fun r => Option.map (fun s => ((r.1, s.1), s.2)) (numP 1 true r.2)) = _
  cases numP 1 false x with
  | none => rfl
  | some r =>
    simp only [Option.bind_some]
    cases numP 1 true r.2 <;> rfl
theorem op_7 (h : form op = 7) : (opF p op).parse x = (numP 2 true x).map fun r => (⟨p, op, p + r.1, 0, []⟩, r.2) := by unfold opF; rw [h]; rfl
theorem op_8 (h : form op = 8) : (opF p op).parse x = ((padF (padOf p)).parse x).bind fun r0 => casesP false p op r0.2 := by rw [← tab_cases]; unfold opF; rw [h]; rfl
theorem op_9 (h : form op = 9) : (opF p op).parse x = ((padF (padOf p)).parse x).bind fun r0 => casesP true p op r0.2 := by rw [← sch_cases]; unfold opF; rw [h]; rfl
theorem op_8is (h : form op = 8) : op = 170 := by
  by_cases h170 : op = 170
  · exact h170
  · exfalso
    unfold form at h
    repeat' split at h
    all_goals first
      | omega
      | exact absurd h (by decide)
theorem op_9is (h : form op = 9) : op = 171 := by
  by_cases h170 : op = 171
  · exact h170
  · exfalso
    unfold form at h
    repeat' split at h
    all_goals first
      | omega
      | exact absurd h (by decide)
end
theorem rone_ok (A : Option Addr) (n c : Nat) (bs : List UInt8) (i : Nat) (w : World) (hn : n = bs.length) (hr : Row w A (bvs bs)) (hc : bs.length ≤ c) (ht : c ≤ 9223372036854775807) (hi : i < bs.length) (hm : bs.length ≤ 140737488355328) :
    Calls Try.prog 71 #[.slice A n c, .int .i64 (i : Int)] w (ROut w (fun _ => False) bs ((insF i).parse (bs.drop i))) := by
  subst hn
  refine enter ok Try.func71 rfl rfl rfl ?_
  have hlow : ∀ a, A = some a → a.block < w.heap.size := fun a ha => Word.row_low hr a ha (fun h => by rw [h] at hi; cases hi)
  refine seq_cut (σ := Unit) (fun _ => [(0, .slice A bs.length c), (1, .int .i64 (i : Int)), (4, .pointer (some ⟨w.heap.size, 0, none⟩))]) (fun _ w' => New w w' ∧ w'.heap.size = w.heap.size + 1 ∧ w'.heap[w.heap.size]? = some (.cells (insC ⟨0, 0, 0, 0, []⟩ nilC).toArray 62 (0, 0))) ?_ ?_
  rotate_left
  · intro K hK
    exact hK () _ _ ⟨rfl, rfl, rfl, trivial⟩ ⟨New.alloc w _, by simp, heap_alloc_new w (.cells (insC ⟨0, 0, 0, 0, []⟩ nilC).toArray 62)⟩
  rintro _ w1 fr1 ⟨n1, s1, hZ1⟩
  refine seq_cut (σ := Unit) (fun _ => [(1, .int .i64 (i : Int)), (4, .pointer (some ⟨w.heap.size, 0, none⟩)), (7, .pointer (some ⟨w.heap.size + 1, 0, none⟩))]) (fun _ w' => Rf w' (w.heap.size + 1) A c bs i ∧ New w w' ∧ w'.heap[w.heap.size]? = some (.cells (insC ⟨0, 0, 0, 0, []⟩ nilC).toArray 62 (0, 0)) ∧ w.heap.size + 2 ≤ w'.heap.size) ?_ ?_
  rotate_left
  · intro K hK
    have n2 := New.alloc w1 (.cells #[.slice A bs.length c, .int .i64 (i : Int)] 147)
    have hb2 := heap_alloc_new w1 (.cells #[.slice A bs.length c, .int .i64 (i : Int)] 147)
    rw [s1] at hb2
    have s2 : (w1.alloc (.cells #[.slice A bs.length c, .int .i64 (i : Int)] 147)).heap.size = w.heap.size + 2 := by simp [s1]
    exact hK () _ _ ⟨rfl, rfl, (show Value.pointer (some ⟨w1.heap.size, 0, none⟩) = _ by rw [s1]), trivial⟩ ⟨⟨hb2, hr.new (n1.trans n2), fun _ a ha => by have := hlow a ha; omega, by omega, hc, ht⟩, n1.trans n2, n2.blk hZ1, Nat.le_of_eq s2.symm⟩
  rintro _ w2 fr2 ⟨rf2, n2, hZ2, z2⟩
  -- the Op
  refine seq_cut (σ := Int) (fun op => [(1, .int .i64 (i : Int)), (4, .pointer (some ⟨w.heap.size, 0, none⟩)), (7, .pointer (some ⟨w.heap.size + 1, 0, none⟩)), (8, .int .i64 op)]) (fun op w' => numP 1 false (bs.drop i) = some (op, bs.drop (i + 1)) ∧ Rf w' (w.heap.size + 1) A c bs (i + 1) ∧ New w w' ∧ w'.heap[w.heap.size]? = some (.cells (insC ⟨0, 0, 0, 0, []⟩ nilC).toArray 62 (0, 0)) ∧ w.heap.size + 2 ≤ w'.heap.size) ?_ ?_
  rotate_left
  · intro K hK
    refine call_ (Get_ok (w.heap.size + 1) A c bs i 1 false w2 rf2) ?_
    rintro e w3 ⟨rfl, r3, m3⟩
    refine ⟨_, rfl, ?_⟩
    rcases gn (Nat.le_of_lt hi) 1 false Code.w1 with ⟨v, h1, h2, h3⟩ | ⟨h1, e, he, h2⟩
    · have g1 : Word.get false bs i (1 : Int) = (v, 0, i + 1) := h2
      have m3s := m3.size
      refine hK (Word.get false bs i (1 : Int)).1 _ _ ⟨rfl, rfl, rfl, rfl, trivial⟩ ⟨by rw [g1]; exact h1, by rw [g1] at r3; exact r3, Mod.trans n2 m3 fun b hb e => by omega, m3.blk hZ2 (by omega), by omega⟩
    · exfalso
      cases hd : bs.drop i with
      | nil =>
        have := congrArg List.length hd
        rw [List.length_drop] at this
        simp at this
        omega
      | cons b r =>
        rw [hd] at h1
        have h4 := num1_cons b r
        rw [num_parse, h1] at h4
        cases h4
  rintro op w3 fr3 ⟨hop, rf3, n3, hZ3, z3⟩
  have hpar : (insF i).parse (bs.drop i) = (opF i op).parse (bs.drop (i + 1)) := by
    rw [ins_parse, hop]
    rfl
  rw [hpar]
  clear hpar hop rf2 n2 hZ2 z2 n1 s1 hZ1
  have hi1 : i + 1 ≤ bs.length := hi
  refine seq_cut (σ := Nat) (fun X => [(1, .int .i64 (i : Int)), (4, .pointer (some ⟨w.heap.size, 0, none⟩)), (7, .pointer (some ⟨w.heap.size + 1, 0, none⟩)), (10, .pointer (some ⟨X, 0, none⟩)), (8, .int .i64 op)]) (fun X w' => w.heap.size + 2 ≤ X ∧ Rf w' (w.heap.size + 1) A c bs (i + 1) ∧ New w w' ∧ w'.heap[X]? = some (.cells (insC ⟨i, op, 0, 0, []⟩ nilC).toArray 62 (0, 0)) ∧ w'.heap[w.heap.size]? = some (.cells (insC ⟨0, 0, 0, 0, []⟩ nilC).toArray 62 (0, 0))) ?_ ?_
  rotate_left
  · intro K hK
    refine And.intro rfl ?_
    refine storeNew (vs := insC ⟨i, op, 0, 0, []⟩ nilC) (arr := (insC ⟨0, 0, 0, 0, []⟩ nilC).toArray) rfl (insC_one _ rfl) ?_
    intro w4 hX4 n4 s4
    exact hK w3.heap.size _ _ ⟨rfl, rfl, rfl, rfl, rfl, trivial⟩ ⟨z3, rf3.new n4, n3.trans n4, hX4, n4.blk hZ3⟩
  rintro X w4 fr4 ⟨hX, st4⟩
  let St : World → Nat → Ins → Prop := fun w' j x => Rf w' (w.heap.size + 1) A c bs j ∧ New w w' ∧ w'.heap[X]? = some (.cells (insC x nilC).toArray 62 (0, 0)) ∧ w'.heap[w.heap.size]? = some (.cells (insC ⟨0, 0, 0, 0, []⟩ nilC).toArray 62 (0, 0))
  have stG : ∀ {w' : World} {j : Nat} {x : Ins} {w'' : World} {j' : Nat}, St w' j x → Rf w'' (w.heap.size + 1) A c bs j' → Mod (fun b => b = w.heap.size + 1) w' w'' → St w'' j' x := fun q r m => ⟨r, Mod.trans q.2.1 m fun b hb e => by omega, m.blk q.2.2.1 (by omega), m.blk q.2.2.2 (by omega)⟩
  have stX : ∀ {w' : World} {j : Nat} {x : Ins} {w'' : World} (x' : Ins), St w' j x → Mod (fun b => b = X) w' w'' → w''.heap[X]? = some (.cells (insC x' nilC).toArray 62 (0, 0)) → St w'' j x' := fun x' q m hb =>
    ⟨q.1.mod m (by omega) (fun hn a ha e => by have := hlow a ha; omega), Mod.trans q.2.1 m fun b hb e => by omega, hb, m.blk q.2.2.2 (by omega)⟩
  have stN : ∀ {w' : World} {j : Nat} {x : Ins} {w'' : World}, St w' j x → New w' w'' → St w'' j x := fun q m => ⟨q.1.new m, q.2.1.trans m, m.blk q.2.2.1, m.blk q.2.2.2⟩
  have bad : ∀ (y : Ins) (v : Value) (w' w'' : World), v.oneCell' = true → (opF i op).parse (bs.drop (i + 1)) = none → New w w' → Mod (fun b => b = w.heap.size) w' w'' → ROut w (fun _ => False) bs ((opF i op).parse (bs.drop (i + 1))) (.returned (.tuple #[.agg (insC y v).toArray, .int .i64 0, .bool false])) w'' := fun y v w' w'' hv hn m m' => ⟨by rw [hn]; exact ⟨y, v, 0, hv, rfl⟩, Mod.trans m m' fun b hb e => by omega⟩
  replace st4 : St w4 (i + 1) ⟨i, op, 0, 0, []⟩ := st4
  clear rf3 n3 hZ3 z3
  refine seq_cut (σ := Unit) (fun _ => [(1, .int .i64 (i : Int)), (4, .pointer (some ⟨w.heap.size, 0, none⟩)), (7, .pointer (some ⟨w.heap.size + 1, 0, none⟩)), (10, .pointer (some ⟨X, 0, none⟩)), (8, .int .i64 op), (11, .int .i64 0), (12, .int .i64 0)]) (fun _ w' => w' = w4) ?_ ?_
  rotate_left
  · intro K hK
    exact hK () _ _ ⟨rfl, rfl, rfl, rfl, rfl, rfl, rfl, trivial⟩ rfl
  rintro _ w4' fr5 rfl
  refine seq_cut (σ := (Ins × Int × Int) × Nat) (fun t => [(4, .pointer (some ⟨w.heap.size, 0, none⟩)), (7, .pointer (some ⟨w.heap.size + 1, 0, none⟩)), (10, .pointer (some ⟨X, 0, none⟩)), (11, .int .i64 t.1.2.1), (12, .int .i64 t.1.2.2)]) (fun t w' => St w' t.2 t.1.1 ∧ t.1.1.cs = [] ∧ ((t.1.2.1 = 0 ∧ t.1.2.2 = 0 ∧ (opF i op).parse (bs.drop (i + 1)) = some (t.1.1, bs.drop t.2) ∧ t.2 ≤ bs.length) ∨ (¬ (t.1.2.1 = 0 ∧ t.1.2.2 = 0) ∧ (opF i op).parse (bs.drop (i + 1)) = none))) ?_ ?_
  rotate_left
  · intro K hK
    have hle := form_le op
    refine call_ (Form_ok op w4') ?_
    rintro e w5 ⟨rfl, n5⟩
    refine ⟨_, rfl, ?_⟩
    have st5 := stN st4 n5
    refine if_p (fun h1 => ?_) (fun h1 => ?_)
    · replace h1 : (form op : Int) = 1 := h1
      exact hK ((⟨i, op, 0, 0, []⟩, 0, 0), i + 1) _ _ ⟨rfl, rfl, rfl, rfl, rfl, trivial⟩ ⟨st5, rfl, .inl ⟨rfl, rfl, op_1 (by omega), hi1⟩⟩
    replace h1 : ¬ (form op : Int) = 1 := h1
    refine if_p (fun h2 => ?_) (fun h2 => ?_)
    · replace h2 : (form op : Int) = 2 := h2
      have hP := op_2 (p := i) (x := bs.drop (i + 1)) (show form op = 2 by omega)
      refine call_ (Get_ok (w.heap.size + 1) A c bs (i + 1) 1 true w5 st5.1) ?_
      rintro e w6 ⟨rfl, r6, m6⟩
      refine ⟨_, rfl, ?_⟩
      have st6 := stG st5 r6 m6
      have hX6 := st6.2.2.1
      refine And.intro ⟨_, cellB hX6 rfl⟩ (And.intro (fzB hX6 _) (force_ ?_))
      refine stK hX6 (show (2 : Nat) < 5 by decide) ?_
      intro w7 hX7 m7 s7
      rcases gn hi1 1 true Code.w1 with ⟨v, h1, h2, h3⟩ | ⟨h1, e, he, h2⟩
      · have g1 : Word.get true bs (i + 1) ((1 : Nat) : Int) = (v, 0, i + 1 + 1) := h2
        have g2 := g1
        have st7 := stX ⟨i, op, (Word.get true bs (i + 1) ((1 : Nat) : Int)).1, 0, []⟩ st6 m7 hX7
        rw [h1] at hP
        refine hK ((⟨i, op, (Word.get true bs (i + 1) ((1 : Nat) : Int)).1, 0, []⟩, (Word.get true bs (i + 1) ((1 : Nat) : Int)).2.1, 0), (Word.get true bs (i + 1) ((1 : Nat) : Int)).2.2) _ _ ⟨rfl, rfl, rfl, rfl, rfl, trivial⟩ ⟨st7, rfl, ?_⟩
        rw [g1]
        exact .inl ⟨rfl, rfl, hP, h3⟩
      · have g1 : Word.get true bs (i + 1) ((1 : Nat) : Int) = (0, e, i + 1) := h2
        have st7 := stX ⟨i, op, (Word.get true bs (i + 1) ((1 : Nat) : Int)).1, 0, []⟩ st6 m7 hX7
        rw [h1] at hP
        refine hK ((⟨i, op, (Word.get true bs (i + 1) ((1 : Nat) : Int)).1, 0, []⟩, (Word.get true bs (i + 1) ((1 : Nat) : Int)).2.1, 0), (Word.get true bs (i + 1) ((1 : Nat) : Int)).2.2) _ _ ⟨rfl, rfl, rfl, rfl, rfl, trivial⟩ ⟨st7, rfl, ?_⟩
        rw [g1]
        exact .inr ⟨fun h => he h.1, hP⟩
    replace h2 : ¬ (form op : Int) = 2 := h2
    refine if_p (fun h3 => ?_) (fun h3 => ?_)
    · replace h3 : (form op : Int) = 3 := h3
      have hP := op_3 (p := i) (x := bs.drop (i + 1)) (show form op = 3 by omega)
      refine call_ (Get_ok (w.heap.size + 1) A c bs (i + 1) 2 true w5 st5.1) ?_
      rintro e w6 ⟨rfl, r6, m6⟩
      refine ⟨_, rfl, ?_⟩
      have st6 := stG st5 r6 m6
      have hX6 := st6.2.2.1
      refine And.intro ⟨_, cellB hX6 rfl⟩ (And.intro (fzB hX6 _) (force_ ?_))
      refine stK hX6 (show (2 : Nat) < 5 by decide) ?_
      intro w7 hX7 m7 s7
      rcases gn hi1 2 true Code.w2 with ⟨v, h1, h2, h3⟩ | ⟨h1, e, he, h2⟩
      · have g1 : Word.get true bs (i + 1) ((2 : Nat) : Int) = (v, 0, i + 1 + 2) := h2
        have g2 := g1
        have st7 := stX ⟨i, op, (Word.get true bs (i + 1) ((2 : Nat) : Int)).1, 0, []⟩ st6 m7 hX7
        rw [h1] at hP
        refine hK ((⟨i, op, (Word.get true bs (i + 1) ((2 : Nat) : Int)).1, 0, []⟩, (Word.get true bs (i + 1) ((2 : Nat) : Int)).2.1, 0), (Word.get true bs (i + 1) ((2 : Nat) : Int)).2.2) _ _ ⟨rfl, rfl, rfl, rfl, rfl, trivial⟩ ⟨st7, rfl, ?_⟩
        rw [g1]
        exact .inl ⟨rfl, rfl, hP, h3⟩
      · have g1 : Word.get true bs (i + 1) ((2 : Nat) : Int) = (0, e, i + 1) := h2
        have st7 := stX ⟨i, op, (Word.get true bs (i + 1) ((2 : Nat) : Int)).1, 0, []⟩ st6 m7 hX7
        rw [h1] at hP
        refine hK ((⟨i, op, (Word.get true bs (i + 1) ((2 : Nat) : Int)).1, 0, []⟩, (Word.get true bs (i + 1) ((2 : Nat) : Int)).2.1, 0), (Word.get true bs (i + 1) ((2 : Nat) : Int)).2.2) _ _ ⟨rfl, rfl, rfl, rfl, rfl, trivial⟩ ⟨st7, rfl, ?_⟩
        rw [g1]
        exact .inr ⟨fun h => he h.1, hP⟩
    replace h3 : ¬ (form op : Int) = 3 := h3
    refine if_p (fun h4 => ?_) (fun h4 => ?_)
    · replace h4 : (form op : Int) = 4 := h4
      have hP := op_4 (p := i) (x := bs.drop (i + 1)) (show form op = 4 by omega)
      refine call_ (Get_ok (w.heap.size + 1) A c bs (i + 1) 1 false w5 st5.1) ?_
      rintro e w6 ⟨rfl, r6, m6⟩
      refine ⟨_, rfl, ?_⟩
      have st6 := stG st5 r6 m6
      have hX6 := st6.2.2.1
      refine And.intro ⟨_, cellB hX6 rfl⟩ (And.intro (fzB hX6 _) (force_ ?_))
      refine stK hX6 (show (2 : Nat) < 5 by decide) ?_
      intro w7 hX7 m7 s7
      rcases gn hi1 1 false Code.w1 with ⟨v, h1, h2, h3⟩ | ⟨h1, e, he, h2⟩
      · have g1 : Word.get false bs (i + 1) ((1 : Nat) : Int) = (v, 0, i + 1 + 1) := h2
        have g2 := g1
        have st7 := stX ⟨i, op, (Word.get false bs (i + 1) ((1 : Nat) : Int)).1, 0, []⟩ st6 m7 hX7
        rw [h1] at hP
        refine hK ((⟨i, op, (Word.get false bs (i + 1) ((1 : Nat) : Int)).1, 0, []⟩, (Word.get false bs (i + 1) ((1 : Nat) : Int)).2.1, 0), (Word.get false bs (i + 1) ((1 : Nat) : Int)).2.2) _ _ ⟨rfl, rfl, rfl, rfl, rfl, trivial⟩ ⟨st7, rfl, ?_⟩
        rw [g1]
        exact .inl ⟨rfl, rfl, hP, h3⟩
      · have g1 : Word.get false bs (i + 1) ((1 : Nat) : Int) = (0, e, i + 1) := h2
        have st7 := stX ⟨i, op, (Word.get false bs (i + 1) ((1 : Nat) : Int)).1, 0, []⟩ st6 m7 hX7
        rw [h1] at hP
        refine hK ((⟨i, op, (Word.get false bs (i + 1) ((1 : Nat) : Int)).1, 0, []⟩, (Word.get false bs (i + 1) ((1 : Nat) : Int)).2.1, 0), (Word.get false bs (i + 1) ((1 : Nat) : Int)).2.2) _ _ ⟨rfl, rfl, rfl, rfl, rfl, trivial⟩ ⟨st7, rfl, ?_⟩
        rw [g1]
        exact .inr ⟨fun h => he h.1, hP⟩
    replace h4 : ¬ (form op : Int) = 4 := h4
    refine if_p (fun h5 => ?_) (fun h5 => ?_)
    · replace h5 : (form op : Int) = 5 := h5
      have hP := op_5 (p := i) (x := bs.drop (i + 1)) (show form op = 5 by omega)
      refine call_ (Get_ok (w.heap.size + 1) A c bs (i + 1) 2 false w5 st5.1) ?_
      rintro e w6 ⟨rfl, r6, m6⟩
      refine ⟨_, rfl, ?_⟩
      have st6 := stG st5 r6 m6
      have hX6 := st6.2.2.1
      refine And.intro ⟨_, cellB hX6 rfl⟩ (And.intro (fzB hX6 _) (force_ ?_))
      refine stK hX6 (show (2 : Nat) < 5 by decide) ?_
      intro w7 hX7 m7 s7
      rcases gn hi1 2 false Code.w2 with ⟨v, h1, h2, h3⟩ | ⟨h1, e, he, h2⟩
      · have g1 : Word.get false bs (i + 1) ((2 : Nat) : Int) = (v, 0, i + 1 + 2) := h2
        have g2 := g1
        have st7 := stX ⟨i, op, (Word.get false bs (i + 1) ((2 : Nat) : Int)).1, 0, []⟩ st6 m7 hX7
        rw [h1] at hP
        refine hK ((⟨i, op, (Word.get false bs (i + 1) ((2 : Nat) : Int)).1, 0, []⟩, (Word.get false bs (i + 1) ((2 : Nat) : Int)).2.1, 0), (Word.get false bs (i + 1) ((2 : Nat) : Int)).2.2) _ _ ⟨rfl, rfl, rfl, rfl, rfl, trivial⟩ ⟨st7, rfl, ?_⟩
        rw [g1]
        exact .inl ⟨rfl, rfl, hP, h3⟩
      · have g1 : Word.get false bs (i + 1) ((2 : Nat) : Int) = (0, e, i + 1) := h2
        have st7 := stX ⟨i, op, (Word.get false bs (i + 1) ((2 : Nat) : Int)).1, 0, []⟩ st6 m7 hX7
        rw [h1] at hP
        refine hK ((⟨i, op, (Word.get false bs (i + 1) ((2 : Nat) : Int)).1, 0, []⟩, (Word.get false bs (i + 1) ((2 : Nat) : Int)).2.1, 0), (Word.get false bs (i + 1) ((2 : Nat) : Int)).2.2) _ _ ⟨rfl, rfl, rfl, rfl, rfl, trivial⟩ ⟨st7, rfl, ?_⟩
        rw [g1]
        exact .inr ⟨fun h => he h.1, hP⟩
    replace h5 : ¬ (form op : Int) = 5 := h5
    refine if_p (fun h6 => ?_) (fun h6 => ?_)
    · replace h6 : (form op : Int) = 6 := h6
      have hP := op_6 (p := i) (x := bs.drop (i + 1)) (show form op = 6 by omega)
      refine seq_cut (σ := (Int × Int) × Nat) (fun t => [(4, .pointer (some ⟨w.heap.size, 0, none⟩)), (7, .pointer (some ⟨w.heap.size + 1, 0, none⟩)), (10, .pointer (some ⟨X, 0, none⟩)), (11, .int .i64 t.1.2)]) (fun t w' => Word.get false bs (i + 1) ((1 : Nat) : Int) = (t.1.1, t.1.2, t.2) ∧ St w' t.2 ⟨i, op, t.1.1, 0, []⟩) ?_ ?_
      rotate_left
      · intro K2 hK2
        refine call_ (Get_ok (w.heap.size + 1) A c bs (i + 1) 1 false w5 st5.1) ?_
        rintro e w6 ⟨rfl, r6, m6⟩
        refine ⟨_, rfl, ?_⟩
        have st6 := stG st5 r6 m6
        have hX6 := st6.2.2.1
        refine And.intro ⟨_, cellB hX6 rfl⟩ (And.intro (fzB hX6 _) (force_ ?_))
        refine stK hX6 (show (2 : Nat) < 5 by decide) ?_
        intro w7 hX7 m7 s7
        exact hK2 (((Word.get false bs (i + 1) ((1 : Nat) : Int)).1, (Word.get false bs (i + 1) ((1 : Nat) : Int)).2.1), (Word.get false bs (i + 1) ((1 : Nat) : Int)).2.2) _ _ ⟨rfl, rfl, rfl, rfl, trivial⟩ ⟨rfl, stX _ st6 m7 hX7⟩
      rintro ⟨⟨a, ea⟩, j1⟩ w6 fr6 ⟨hga, st6⟩
      dsimp only at hga st6
      have hj1 : j1 ≤ bs.length := st6.1.at_
      refine call_ (Get_ok (w.heap.size + 1) A c bs j1 1 true w6 st6.1) ?_
      rintro e w7 ⟨rfl, r7, m7⟩
      refine ⟨_, rfl, ?_⟩
      have st7 := stG st6 r7 m7
      have hX7 := st7.2.2.1
      refine And.intro ⟨_, cellB hX7 rfl⟩ (And.intro (fzB hX7 _) (force_ ?_))
      refine stK hX7 (show (3 : Nat) < 5 by decide) ?_
      intro w8 hX8 m8 s8
      have st8 := stX ⟨i, op, a, (Word.get true bs j1 ((1 : Nat) : Int)).1, []⟩ st7 m8 hX8
      refine hK ((⟨i, op, a, (Word.get true bs j1 ((1 : Nat) : Int)).1, []⟩, ea, (Word.get true bs j1 ((1 : Nat) : Int)).2.1), (Word.get true bs j1 ((1 : Nat) : Int)).2.2) _ _ ⟨rfl, rfl, rfl, rfl, rfl, trivial⟩ ⟨st8, rfl, ?_⟩
      dsimp only
      rcases gn hi1 1 false Code.w1 with ⟨v, h1, h2, h3⟩ | ⟨h1, e, he, h2⟩
      · rw [hga] at h2
        simp only [Prod.mk.injEq] at h2
        obtain ⟨rfl, rfl, rfl⟩ := h2
        rw [h1, Option.bind_some] at hP
        dsimp only at hP
        rcases gn h3 1 true Code.w1 with ⟨v, h4, h5, h6⟩ | ⟨h4, e, he, h5⟩
        · rw [h4] at hP
          rw [h5]
          exact .inl ⟨rfl, rfl, hP, h6⟩
        · rw [h4] at hP
          rw [h5]
          exact .inr ⟨fun h => he h.2, hP⟩
      · rw [hga] at h2
        simp only [Prod.mk.injEq] at h2
        rw [h1] at hP
        exact .inr ⟨fun h => he (by rw [← h2.2.1]; exact h.1), hP⟩
    replace h6 : ¬ (form op : Int) = 6 := h6
    refine if_p (fun h7 => ?_) (fun h7 => ?_)
    · replace h7 : (form op : Int) = 7 := h7
      have hP := op_7 (p := i) (x := bs.drop (i + 1)) (show form op = 7 by omega)
      refine seq_cut (σ := (Int × Int) × Nat) (fun t => [(1, .int .i64 (i : Int)), (4, .pointer (some ⟨w.heap.size, 0, none⟩)), (7, .pointer (some ⟨w.heap.size + 1, 0, none⟩)), (10, .pointer (some ⟨X, 0, none⟩)), (11, .int .i64 t.1.2), (12, .int .i64 0)]) (fun t w' => Word.get true bs (i + 1) ((2 : Nat) : Int) = (t.1.1, t.1.2, t.2) ∧ St w' t.2 ⟨i, op, t.1.1, 0, []⟩) ?_ ?_
      rotate_left
      · intro K2 hK2
        refine call_ (Get_ok (w.heap.size + 1) A c bs (i + 1) 2 true w5 st5.1) ?_
        rintro e w6 ⟨rfl, r6, m6⟩
        refine ⟨_, rfl, ?_⟩
        have st6 := stG st5 r6 m6
        have hX6 := st6.2.2.1
        refine And.intro ⟨_, cellB hX6 rfl⟩ (And.intro (fzB hX6 _) (force_ ?_))
        refine stK hX6 (show (2 : Nat) < 5 by decide) ?_
        intro w7 hX7 m7 s7
        exact hK2 (((Word.get true bs (i + 1) ((2 : Nat) : Int)).1, (Word.get true bs (i + 1) ((2 : Nat) : Int)).2.1), (Word.get true bs (i + 1) ((2 : Nat) : Int)).2.2) _ _ ⟨rfl, rfl, rfl, rfl, rfl, rfl, trivial⟩ ⟨rfl, stX _ st6 m7 hX7⟩
      rintro ⟨⟨a, ea⟩, j1⟩ w6 fr6 ⟨hga, st6⟩
      dsimp only at hga st6
      have hba := gb (by omega) hga
      have hX6 := st6.2.2.1
      refine Exists.intro a (And.intro (cellB hX6 rfl) ?_)
      refine And.intro ⟨_, cellB hX6 rfl⟩ (And.intro (fzB hX6 _) (force_ ?_))
      refine stK hX6 (show (2 : Nat) < 5 by decide) ?_
      intro w7 hX7 m7 s7
      rw [wrap_i64 (show -9223372036854775808 ≤ a + (i : Int) by omega) (by omega), Int.add_comm] at hX7
      have st7 := stX ⟨i, op, i + a, 0, []⟩ st6 m7 hX7
      refine hK ((⟨i, op, i + a, 0, []⟩, ea, 0), j1) _ _ ⟨rfl, rfl, rfl, rfl, rfl, trivial⟩ ⟨st7, rfl, ?_⟩
      dsimp only
      rcases gn hi1 2 true Code.w2 with ⟨v, h1, h2, h3⟩ | ⟨h1, e, he, h2⟩
      · rw [hga] at h2
        simp only [Prod.mk.injEq] at h2
        obtain ⟨rfl, rfl, rfl⟩ := h2
        rw [h1] at hP
        exact .inl ⟨rfl, rfl, hP, h3⟩
      · rw [hga] at h2
        simp only [Prod.mk.injEq] at h2
        rw [h1] at hP
        exact .inr ⟨fun h => he (by rw [← h2.2.1]; exact h.1), hP⟩
    replace h7 : ¬ (form op : Int) = 7 := h7
    refine seq_cut (σ := Unit) (fun _ => [(1, .int .i64 (i : Int)), (4, .pointer (some ⟨w.heap.size, 0, none⟩)), (7, .pointer (some ⟨w.heap.size + 1, 0, none⟩)), (10, .pointer (some ⟨X, 0, none⟩)), (92, .bool (decide (form op = 8 ∨ form op = 9)))]) (fun _ w' => w' = w5) ?_ ?_
    rotate_left
    · intro K2 hK2
      refine if_p (fun h8 => ?_) (fun h8 => ?_)
      · replace h8 : (form op : Int) = 8 := h8
        exact hK2 () _ _ ⟨rfl, rfl, rfl, rfl, (show Value.bool (decide ((form op : Int) = 8)) = _ by rw [decide_eq_true h8, decide_eq_true (show form op = 8 ∨ form op = 9 by omega)]), trivial⟩ rfl
      · replace h8 : ¬ (form op : Int) = 8 := h8
        refine hK2 () _ _ ⟨rfl, rfl, rfl, rfl, (show Value.bool (decide ((form op : Int) = 9)) = .bool (decide (form op = 8 ∨ form op = 9)) from ?_), trivial⟩ rfl
        congr 1
        exact decide_eq_decide.2 (by omega)
    rintro _ w5' fr6 rfl
    refine if_p (fun h8 => ?_) (fun h8 => ?_)
    · replace h8 : form op = 8 ∨ form op = 9 := h8
      have hP : (opF i op).parse (bs.drop (i + 1)) = ((padF (padOf i)).parse (bs.drop (i + 1))).bind fun r0 => casesP (decide (form op = 9)) i op r0.2 := by
        rcases h8 with h8 | h8
        · rw [op_8 h8, decide_eq_false (by omega)]
        · rw [op_9 h8, decide_eq_true h8]
      have hopi : op = 170 ∧ decide (form op = 9) = false ∨ op = 171 ∧ decide (form op = 9) = true := by
        rcases h8 with h8 | h8
        · exact .inl ⟨op_8is h8, decide_eq_false (by omega)⟩
        · exact .inr ⟨op_9is h8, decide_eq_true h8⟩
      have hpad : padOf i ≤ 3 := by unfold padOf; omega
      refine seq_cut (σ := Nat) (fun _ => [(1, .int .i64 (i : Int)), (4, .pointer (some ⟨w.heap.size, 0, none⟩)), (7, .pointer (some ⟨w.heap.size + 1, 0, none⟩)), (10, .pointer (some ⟨X, 0, none⟩))]) (fun j w' => St w' j ⟨i, op, 0, 0, []⟩ ∧ (padF (padOf i)).parse (bs.drop (i + 1)) = some ((), bs.drop j)) ?_ ?_
      rotate_left
      · intro K2 hK2
        refine den_loop (σ := Nat × Nat) (fun t => [(1, .int .i64 (i : Int)), (4, .pointer (some ⟨w.heap.size, 0, none⟩)), (7, .pointer (some ⟨w.heap.size + 1, 0, none⟩)), (10, .pointer (some ⟨X, 0, none⟩)), (13, .int .i64 (t.1 : Int))]) (fun m t wl => m + t.1 = padOf i ∧ (padF m).parse (bs.drop t.2) = (padF (padOf i)).parse (bs.drop (i + 1)) ∧ St wl t.2 ⟨i, op, 0, 0, []⟩) (padOf i) (0, i + 1) ⟨rfl, rfl, rfl, rfl, rfl, trivial⟩ ⟨rfl, rfl, st5⟩ ?_
        rintro m ⟨k, jl⟩ wl frl ⟨hfuel, hpp, stl⟩
        dsimp only at hfuel hpp stl
        refine call_ (rpad_ok i wl (by omega)) ?_
        rintro e wp ⟨rfl, hwp⟩
        obtain rfl := hwp.symm
        refine ⟨_, rfl, ?_⟩
        refine if_p (fun hlt => ?_) (fun hge => ?_)
        · replace hlt : (k : Int) < (padOf i : Int) := hlt
          obtain ⟨m, rfl⟩ : ∃ m', m = m' + 1 := ⟨m - 1, by omega⟩
          have inc : Value.int .i64 (IntKind.i64.wrap ((k : Int) + 1)) = .int .i64 ((k + 1 : Nat) : Int) := by
            rw [wrap_i64 (by omega) (by omega)]
            rfl
          refine skip_ (thenF_ ?_)
          refine seq_ (block_ ?_)
          refine seq_cut (σ := (Int × Int) × Nat) (fun t => [(1, .int .i64 (i : Int)), (4, .pointer (some ⟨w.heap.size, 0, none⟩)), (7, .pointer (some ⟨w.heap.size + 1, 0, none⟩)), (10, .pointer (some ⟨X, 0, none⟩)), (13, .int .i64 (k : Int)), (14, .int .i64 t.1.1), (15, .int .i64 t.1.2)]) (fun t w' => Word.get false bs jl ((1 : Nat) : Int) = (t.1.1, t.1.2, t.2) ∧ St w' t.2 ⟨i, op, 0, 0, []⟩) ?_ ?_
          rotate_left
          · intro K3 hK3
            refine call_ (Get_ok (w.heap.size + 1) A c bs jl 1 false wl stl.1) ?_
            rintro e w6 ⟨rfl, r6, m6⟩
            refine ⟨_, rfl, ?_⟩
            exact hK3 (((Word.get false bs jl ((1 : Nat) : Int)).1, (Word.get false bs jl ((1 : Nat) : Int)).2.1), (Word.get false bs jl ((1 : Nat) : Int)).2.2) _ _ ⟨rfl, rfl, rfl, rfl, rfl, rfl, rfl, trivial⟩ ⟨rfl, stG stl r6 m6⟩
          rintro ⟨⟨v, er⟩, j1⟩ w6 fr7 ⟨hg6, st6⟩
          dsimp only at hg6 st6
          have hnone : (padF (padOf i)).parse (bs.drop (i + 1)) = none → (opF i op).parse (bs.drop (i + 1)) = none := fun h => by rw [hP, h]; rfl
          have hjl : jl ≤ bs.length := stl.1.at_
          rcases gn hjl 1 false Code.w1 with ⟨v', h1, h2, h3⟩ | ⟨h1, e, he, h2⟩
          · rw [hg6] at h2
            simp only [Prod.mk.injEq] at h2
            obtain ⟨rfl, rfl, rfl⟩ := h2
            cases hd : bs.drop jl with
            | nil =>
              rw [hd] at h1
              have h4 := num_nil (k := 1) false Code.w1
              rw [num_parse, h1] at h4
              cases h4
            | cons b r =>
              rw [hd] at h1 hpp
              have h4 := num1_cons b r
              rw [num_parse, h1] at h4
              simp only [Option.some.injEq, Prod.mk.injEq] at h4
              obtain ⟨h5, h6⟩ := h4
              rw [pad_cons] at hpp
              refine if_n (fun hne => ?_) (fun h0 => ?_)
              · replace hne : ¬ v = 0 := hne
                rw [if_neg (fun hb => by rw [hb] at h5; exact hne h5)] at hpp
                refine loadN_row (vs := insC ⟨i, op, 0, 0, []⟩ nilC) (rowB st6.2.2.1) rfl ?_
                refine And.intro rfl ?_
                refine storeN_all (vs := insC ⟨i, op, 0, 0, []⟩ nilC) st6.2.2.2 rfl (insC_one _ rfl) ?_
                intro w99 hZ99 m99 s99
                refine loadN_row (vs := insC ⟨i, op, 0, 0, []⟩ nilC) (rowB hZ99) rfl ?_
                exact bad _ _ w6 w99 rfl (hnone hpp.symm) st6.2.1 m99
              · replace h0 : v = 0 := h0
                have hb0 : b = 0 := by
                  have : b.toNat = 0 := by omega
                  exact UInt8.toNat_inj.1 this
                rw [if_pos hb0, ← h6] at hpp
                exact ⟨m, (k + 1, jl + 1), by omega, ⟨rfl, rfl, rfl, rfl, inc, trivial⟩, by dsimp only; omega, hpp, st6⟩
          · rw [hg6] at h2
            simp only [Prod.mk.injEq] at h2
            obtain ⟨rfl, rfl, hj1⟩ := h2
            have hd : bs.drop jl = [] := by
              cases hd : bs.drop jl with
              | nil => rfl
              | cons b r =>
                rw [hd] at h1
                have h4 := num1_cons b r
                rw [num_parse, h1] at h4
                cases h4
            rw [hd, pad_nil] at hpp
            refine if_n (fun _ => ?_) (fun h => absurd h he)
            refine loadN_row (vs := insC ⟨i, op, 0, 0, []⟩ nilC) (rowB st6.2.2.1) rfl ?_
            refine And.intro rfl ?_
            refine storeN_all (vs := insC ⟨i, op, 0, 0, []⟩ nilC) st6.2.2.2 rfl (insC_one _ rfl) ?_
            intro w99 hZ99 m99 s99
            refine loadN_row (vs := insC ⟨i, op, 0, 0, []⟩ nilC) (rowB hZ99) rfl ?_
            exact bad _ _ w6 w99 rfl (hnone hpp.symm) st6.2.1 m99
        · replace hge : ¬ (k : Int) < (padOf i : Int) := hge
          obtain rfl : m = 0 := by omega
          have hd : (padF 0).parse (bs.drop jl) = some ((), bs.drop jl) := by
            rw [pad_parse, if_neg (by omega), if_pos (by simp)]
            simp
          rw [hd] at hpp
          exact hK2 jl _ _ ⟨rfl, rfl, rfl, rfl, trivial⟩ ⟨stl, hpp.symm⟩
      rintro jp w6 fr7 ⟨st6, hpp⟩
      rw [hpp, Option.bind_some] at hP
      dsimp only at hP
      rw [hP]
      refine loadN_row (vs := insC ⟨i, op, 0, 0, []⟩ nilC) (rowB st6.2.2.1) rfl ?_
      refine call_ (rcases_ok (w.heap.size + 1) A c bs jp i op (decide (form op = 9)) w6 hopi st6.1 (by omega)) ?_
      rintro e w7 ⟨hout, m7⟩
      have hZ7 := m7.blk st6.2.2.2 (by omega)
      have k7 : New w w7 := Mod.trans st6.2.1 m7 fun b hb e => by omega
      cases hcp : casesP (decide (form op = 9)) i op (bs.drop jp) with
      | none =>
        rw [hcp] at hout
        obtain ⟨y, v, z, hv, rfl⟩ := hout
        refine ⟨_, rfl, ?_⟩
        refine And.intro rfl ?_
        refine storeN_all (vs := insC y v) hZ7 rfl (insC_one _ hv) ?_
        intro w8 hZ8 m8 s8
        refine loadN_row (vs := insC y v) (rowB hZ8) rfl ?_
        exact ⟨⟨y, v, z, hv, rfl⟩, Mod.trans k7 m8 fun b hb e => by omega⟩
      | some q =>
        rw [hcp] at hout
        obtain ⟨v, j, hq, hj, rfl, own7, hl7⟩ := hout
        have hv : v.oneCell' = true := by
          obtain ⟨A', c', e', _⟩ := own_slice own7
          rw [e']
          rfl
        refine ⟨_, rfl, ?_⟩
        refine And.intro rfl ?_
        refine storeN_all (vs := insC q.1 v) hZ7 rfl (insC_one _ hv) ?_
        intro w8 hZ8 m8 s8
        refine loadN_row (vs := insC q.1 v) (rowB hZ8) rfl ?_
        have hz6 : w.heap.size + 2 ≤ w6.heap.size := Nat.le_trans hX (Nat.le_of_lt (Array.getElem?_eq_some_iff.1 st6.2.2.1).1)
        refine ⟨⟨v, j, hq, hj, rfl, own_low (own_mod m8 own7 (fun b hb e => by have := (own7.lt b hb).1; omega)) (by omega), hl7⟩, Mod.trans k7 m8 fun b hb e => by omega⟩
    · replace h8 : ¬ (form op = 8 ∨ form op = 9) := h8
      have hP := op_0 (p := i) (x := bs.drop (i + 1)) (show form op = 0 by omega)
      refine loadN_row (vs := insC ⟨i, op, 0, 0, []⟩ nilC) (rowB st5.2.2.1) rfl ?_
      refine And.intro rfl ?_
      refine storeN_all (vs := insC ⟨i, op, 0, 0, []⟩ nilC) st5.2.2.2 rfl (insC_one _ rfl) ?_
      intro w99 hZ99 m99 s99
      refine loadN_row (vs := insC ⟨i, op, 0, 0, []⟩ nilC) (rowB hZ99) rfl ?_
      exact bad _ _ w5' w99 rfl (hP) st5.2.1 m99
  rintro ⟨⟨x, e, f⟩, j⟩ w6 fr6 ⟨st6, hcs, hor⟩
  dsimp only at st6 hcs hor
  have tail : ∀ (b : Bool), b = decide (e = 0 ∧ f = 0) → ∀ w8, w8.heap[w.heap.size]? = some (.cells (insC x nilC).toArray 62 (0, 0)) → Mod (fun b => b = w.heap.size) w6 w8 → ROut w (fun _ => False) bs ((opF i op).parse (bs.drop (i + 1))) (.returned (.tuple #[.agg (insC x nilC).toArray, .int .i64 (j : Int), .bool b])) w8 := by
    intro b hb w8 hZ8 m8
    refine ⟨?_, Mod.trans st6.2.1 m8 fun b hb e => by omega⟩
    rcases hor with ⟨he, hf, hP, hj⟩ | ⟨hne, hP⟩
    · rw [hP, hb, decide_eq_true ⟨he, hf⟩]
      exact ⟨nilC, j, rfl, hj, rfl, by rw [hcs]; exact ⟨rfl, .inl ⟨rfl, rfl⟩⟩, by rw [hcs]; simp⟩
    · rw [hP, hb, decide_eq_false hne]
      exact ⟨x, nilC, (j : Int), rfl, rfl⟩
  refine draw_ (w := w6) ok (.q 0 (.q 1 (.q 2 (.q 3 (.q 4 (.q 5 (.q 6 (.q 7 (.q 8 (.q 9 (.q 10 (.e 11 (.q 12 (.q 13 .done)))))))))))))) [13] (Mod (fun b => b = w.heap.size) w6) (by kernel_rfl) (by kernel_rfl) (by kernel_rfl) (by kernel_rfl) (by kernel_rfl) (New.drew _).mod ?_
  refine loadNC_row (vs := insC x nilC) (fun k u hu w'' hw => rowB (hw.blk st6.2.2.1 (by omega)) k u hu) rfl ?_
  refine Exists.intro (j : Int) (And.intro (fun w'' hw => cellB (hw.blk st6.1.blk (by omega)) rfl) ?_)
  have nd := New.drew w6
  refine if_p (fun he => ?_) (fun he => ?_)
  · replace he : e = 0 := he
    refine And.intro rfl ?_
    refine storeN_all (vs := insC x nilC) (nd.blk st6.2.2.2) rfl (insC_one _ rfl) ?_
    intro w8 hZ8 m8 s8
    have k8 : Mod (fun b => b = w.heap.size) w6 w8 := both nd.mod m8
    refine Exists.intro (Mod (fun b => b = w.heap.size) w6) (And.intro (fun _ h => h) (And.intro k8 ?_))
    refine loadN_row (vs := insC x nilC) (rowB hZ8) rfl ?_
    exact tail (decide (f = 0)) (decide_eq_decide.2 ⟨fun h => ⟨he, h⟩, fun h => h.2⟩) w8 hZ8 k8
  · replace he : ¬ e = 0 := he
    refine And.intro rfl ?_
    refine storeN_all (vs := insC x nilC) (nd.blk st6.2.2.2) rfl (insC_one _ rfl) ?_
    intro w8 hZ8 m8 s8
    have k8 : Mod (fun b => b = w.heap.size) w6 w8 := both nd.mod m8
    refine Exists.intro (Mod (fun b => b = w.heap.size) w6) (And.intro (fun _ h => h) (And.intro k8 ?_))
    refine loadN_row (vs := insC x nilC) (rowB hZ8) rfl ?_
    exact tail false (decide_eq_false (fun h => he h.1)).symm w8 hZ8 k8
end Go.Proofs.Ytcpeekeiflglpaa.Code

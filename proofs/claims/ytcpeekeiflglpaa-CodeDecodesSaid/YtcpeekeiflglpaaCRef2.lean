/- The document's answer for codes, walked: where an instruction leads; and plain mathematics of its cases. -/
import Derived.Test.YtcpeekeiflglpaaCRef1
namespace Go.Proofs.Ytcpeekeiflglpaa.Code
open Go Go.Proofs.Ytcpeekeiflglpaa Go.Proofs.Ytcpeekeiflglpaa.Eng Go.Proofs Go.Proofs.Ytcpeekeiflglpaa.Word Go.Proofs.Ytcpeekeiflglpaa.Fmt
open Go.Proofs.Ytcpeekeiflglpaa.Pool (both own_low)
set_option maxRecDepth 10000

theorem rTargets_ok (x : Ins) (v : Value) (w : World) (hv : CsV w v x.cs) :
    Calls Try.prog 72 #[.agg (insC x v).toArray] w fun e w' => ∃ A c, e = .returned (.slice A (targets x).length c) ∧ Row w' A (ivs (targets x)) ∧ (targets x).length ≤ 8796093022210 ∧ New w w' := by
  refine enter ok Try.func72 rfl rfl rfl ?_
  have hlen := hv.len
  have e0 : targets x = (if 7 ≤ form x.op then [x.a] else []) ++ if 8 ≤ form x.op then x.cs.map (·.to) else [] := rfl
  refine seq_cut (σ := Unit) (fun _ => [(1, .pointer (some ⟨w.heap.size, 0, none⟩))]) (fun _ w' => New w w' ∧ w'.heap[w.heap.size]? = some (.cells (insC x v).toArray 62 (0, 0)) ∧ w.heap.size + 1 ≤ w'.heap.size) ?_ ?_
  rotate_left
  · intro K hK
    exact hK () _ _ ⟨rfl, trivial⟩ ⟨New.alloc w _, heap_alloc_new w _, by simp⟩
  rintro _ w1 fr1 ⟨n1, hI1, s1⟩
  refine seq_cut (σ := Nat) (fun T => [(1, .pointer (some ⟨w.heap.size, 0, none⟩)), (3, .slice (some ⟨T, 0, none⟩) 0 0)]) (fun T w' => New w w' ∧ w'.heap[w.heap.size]? = some (.cells (insC x v).toArray 62 (0, 0)) ∧ w.heap.size + 1 ≤ w'.heap.size ∧ w'.ownsRow (w.heap.size + 1) 3 1 (.slice (some ⟨T, 0, none⟩) 0 0) 0 (ivs [])) ?_ ?_
  rotate_left
  · intro K hK
    have n2 := New.alloc w1 (.cells #[] 3)
    exact hK w1.heap.size _ _ ⟨rfl, rfl, trivial⟩ ⟨n1.trans n2, n2.blk hI1, Nat.le_trans s1 n2.size, own_lit w1 [] 3 1 0 (w.heap.size + 1) s1 rfl (by omega)⟩
  rintro T w2 fr2 ⟨n2, hI2, s2, own2⟩
  refine seq_cut (σ := Unit) (fun _ => [(1, .pointer (some ⟨w.heap.size, 0, none⟩)), (3, .slice (some ⟨T, 0, none⟩) 0 0), (4, .int .i64 (form x.op : Int))]) (fun _ w' => New w w' ∧ w'.heap[w.heap.size]? = some (.cells (insC x v).toArray 62 (0, 0)) ∧ w.heap.size + 1 ≤ w'.heap.size ∧ w'.ownsRow (w.heap.size + 1) 3 1 (.slice (some ⟨T, 0, none⟩) 0 0) 0 (ivs [])) ?_ ?_
  rotate_left
  · intro K hK
    refine Exists.intro x.op (And.intro (cellB hI2 rfl) ?_)
    refine call_ (Form_ok x.op w2) ?_
    rintro e w3 ⟨rfl, n3⟩
    refine ⟨_, rfl, ?_⟩
    have := n3.size
    exact hK () _ _ ⟨rfl, rfl, rfl, trivial⟩ ⟨n2.trans n3, n3.blk hI2, by omega, own_new n3 own2⟩
  rintro _ w3 fr3 ⟨n3, hI3, s3, own3⟩
  refine seq_cut (σ := Option Addr × Nat) (fun t => [(1, .pointer (some ⟨w.heap.size, 0, none⟩)), (3, .slice t.1 (if 7 ≤ form x.op then [x.a] else []).length t.2), (4, .int .i64 (form x.op : Int))]) (fun t w' => New w w' ∧ w'.heap[w.heap.size]? = some (.cells (insC x v).toArray 62 (0, 0)) ∧ w.heap.size + 1 ≤ w'.heap.size ∧
    w'.ownsRow (w.heap.size + 1) 3 1 (.slice t.1 (if 7 ≤ form x.op then [x.a] else []).length t.2) (if 7 ≤ form x.op then [x.a] else []).length (ivs (if 7 ≤ form x.op then [x.a] else []))) ?_ ?_
  rotate_left
  · intro K hK
    refine if_p (fun h7 => ?_) (fun h7 => ?_)
    · replace h7 : (7 : Int) ≤ (form x.op : Int) := h7
      rw [if_pos (show 7 ≤ form x.op by omega)] at hK
      refine Exists.intro x.a (And.intro (cellB hI3 rfl) ?_)
      have n4 := New.alloc w3 (.cells #[.int .i64 x.a] 3)
      refine append2_ ok rfl rfl rfl rfl (own_new n4 own3) rfl rfl (row_alloc w3 [.int .i64 x.a] _ _) rfl (fun u hu => by rw [List.mem_singleton.1 hu]; rfl) (by decide) rfl (by show (0 + 1) * 8 ≤ _; omega) (by omega) (Nat.le_trans s3 n4.size) ?_
      intro A4 c4 w4 own4 mod4 st4
      have k4 : New w w4 := Mod.trans n3 (Mod.trans (S := fun b => some b = (Value.slice (some ⟨T, 0, none⟩) 0 0).ownBlock) n4.mod mod4 fun _ _ e => e) fun b hb e => by
        have := (own3.lt b e.symm).1
        omega
      have h4s := (Mod.trans (S := fun b => some b = (Value.slice (some ⟨T, 0, none⟩) 0 0).ownBlock) n4.mod mod4 fun _ _ e => e).size
      have hI4 := (Mod.trans (S := fun b => some b = (Value.slice (some ⟨T, 0, none⟩) 0 0).ownBlock) n4.mod mod4 fun _ _ e => e).blk hI3 (fun e => by
        have := (own3.lt _ e.symm).1
        omega)
      exact hK (A4, c4) _ _ ⟨rfl, rfl, rfl, trivial⟩ ⟨k4, hI4, by omega, own4⟩
    · replace h7 : ¬ (7 : Int) ≤ (form x.op : Int) := h7
      rw [if_neg (show ¬ 7 ≤ form x.op by omega)] at hK
      exact hK (some ⟨T, 0, none⟩, 0) _ _ ⟨rfl, rfl, rfl, trivial⟩ ⟨n3, hI3, s3, own3⟩
  rintro ⟨A4, c4⟩ w4 fr4 ⟨n4, hI4, s4, own4⟩
  dsimp only at own4
  generalize hpre : (if 7 ≤ form x.op then [x.a] else []) = pre at own4 e0
  have hprel : pre.length ≤ 1 := by
    rw [← hpre]
    split <;> simp
  refine seq_cut (σ := Option Addr × Nat) (fun t => [(3, .slice t.1 (targets x).length t.2)]) (fun t w' => New w w' ∧ (targets x).length ≤ 8796093022210 ∧ w'.ownsRow (w.heap.size + 1) 3 1 (.slice t.1 (targets x).length t.2) (targets x).length (ivs (targets x))) ?_ ?_
  · rintro ⟨A5, c5⟩ w5 fr5 ⟨n5, hl5, own5⟩
    dsimp only at own5
    obtain ⟨A6, c6, e6, _, _, row6, _⟩ := own_slice own5
    cases e6
    exact ⟨A5, c5, rfl, row6, hl5, n5⟩
  intro K hK
  obtain ⟨⟨AC, cC, ev, rowC⟩, _⟩ := hv
  refine den_loop (σ := (Option Addr × Nat) × Nat) (fun t => [(1, .pointer (some ⟨w.heap.size, 0, none⟩)), (3, .slice t.1.1 (pre.length + t.2) t.1.2), (4, .int .i64 (form x.op : Int)), (5, .int .i64 (t.2 : Int))])
    (fun m t wl => m + t.2 = x.cs.length ∧ (t.2 = 0 ∨ 8 ≤ form x.op) ∧ New w wl ∧ w.heap.size + 1 ≤ wl.heap.size ∧ wl.heap[w.heap.size]? = some (.cells (insC x v).toArray 62 (0, 0)) ∧ wl.ownsRow (w.heap.size + 1) 3 1 (.slice t.1.1 (pre.length + t.2) t.1.2) (pre.length + t.2) (ivs (pre ++ (x.cs.take t.2).map (·.to)))) x.cs.length ((A4, c4), 0)
    ⟨rfl, by rw [← hpre]; rfl, rfl, rfl, trivial⟩ ⟨rfl, .inl rfl, n4, s4, hI4, by simpa using own4⟩ ?_
  rintro m ⟨⟨Al, cl⟩, i⟩ wl fr0 ⟨hfuel, h8, kl, klsz, hIl, own⟩
  dsimp only at hfuel h8 own
  have hownb := fun b (e : (Value.slice Al (pre.length + i) cl).ownBlock = some b) => own.lt b e
  refine Exists.intro AC (Exists.intro x.cs.length (Exists.intro cC (And.intro (cellB hIl (by rw [ev]; rfl)) ?_)))
  refine if_p (fun hlt => ?_) (fun hge => ?_)
  · replace hlt : (i : Int) < (x.cs.length : Int) := hlt
    have hi : i < x.cs.length := by omega
    have hm1 : m - 1 + 1 = m := by omega
    refine if_p (fun hf => ?_) (fun hf => ?_)
    · replace hf : (8 : Int) ≤ (form x.op : Int) := hf
      obtain ⟨aC, eC, hcell⟩ := csF_row (rowC.new kl) hi
      refine Exists.intro AC (Exists.intro x.cs.length (Exists.intro cC (And.intro (cellB hIl (by rw [ev]; rfl)) ?_)))
      refine And.intro (by omega) (And.intro hlt ?_)
      refine some_at eC ?_
      refine Exists.intro x.cs[i].to (And.intro (by rw [Int.toNat_natCast]; exact hcell 1 _ rfl) ?_)
      have n8 := New.alloc wl (.cells #[.int .i64 x.cs[i].to] 3)
      refine append2_ ok rfl rfl rfl rfl (own_new n8 own) rfl rfl (row_alloc wl [.int .i64 x.cs[i].to] _ _) rfl (fun u hu => by rw [List.mem_singleton.1 hu]; rfl) (by decide) rfl (by show (pre.length + i + 1) * 8 ≤ _; omega) (by omega) (Nat.le_trans klsz n8.size) ?_
      intro A9 c9 w9 own9 mod9 st9
      have k79 := Mod.trans (S := fun b => some b = (Value.slice Al (pre.length + i) cl).ownBlock) n8.mod mod9 fun _ _ e => e
      have k9 : New w w9 := Mod.trans kl k79 fun b hb e => by
        have := (hownb b e.symm).1
        omega
      have h9s := k79.size
      have inc : Value.int .i64 (IntKind.i64.wrap ((i : Int) + 1)) = .int .i64 ((i + 1 : Nat) : Int) := by
        rw [wrap_i64 (by omega) (by omega)]
        rfl
      refine ⟨m - 1, ((A9, c9), i + 1), by omega, ⟨rfl, rfl, rfl, inc, trivial⟩, by dsimp only; omega, .inr (by omega), k9, by omega, k79.blk hIl (fun e => by have := (hownb _ e.symm).1; omega), ?_⟩
      dsimp only
      have et : ivs (pre ++ (x.cs.take (i + 1)).map (·.to)) = ivs (pre ++ (x.cs.take i).map (·.to)) ++ [.int .i64 x.cs[i].to] := by
        rw [List.take_succ_eq_append_getElem hi, List.map_append, ← List.append_assoc, ← ivs_snoc]
        rfl
      rw [et]
      exact own9
    · replace hf : ¬ (8 : Int) ≤ (form x.op : Int) := hf
      have hi0 : i = 0 := by omega
      subst hi0
      rw [if_neg (show ¬ 8 ≤ form x.op by omega), List.append_nil] at e0
      have : (targets x).length = pre.length := by rw [e0]
      refine hK (Al, cl) _ _ ⟨by rw [this]; rfl, trivial⟩ ⟨kl, by omega, ?_⟩
      rw [e0]
      simpa using own
  · replace hge : ¬ (i : Int) < (x.cs.length : Int) := hge
    have hil : i = x.cs.length := by omega
    have et : targets x = pre ++ (x.cs.take i).map (·.to) := by
      rw [e0]
      congr 1
      split
      · rw [hil, List.take_length]
      · rename_i hn
        have : x.cs = [] := List.length_eq_zero_iff.1 (by omega)
        rw [this]
        simp
    have el : (targets x).length = pre.length + i := by
      rw [et]
      simp
      omega
    refine hK (Al, cl) _ _ ⟨by rw [el]; rfl, trivial⟩ ⟨kl, by omega, ?_⟩
    rw [el, et]
    exact own

/-! ### Cases, behind the noughts -/
def tailP (srch : Bool) (p : Nat) (op far low n : Int) (x : List UInt8) : Option (Ins × List UInt8) :=
  if srch = true then ((manyP (dseq (num 4 true w4) fun _ => num 4 true w4) n.toNat x).bind (riseIf [] p)).map fun r3 => (⟨p, op, p + far, low, r3.1⟩, r3.2)
  else (manyP (num 4 true w4) n.toNat x).map fun r3 => (⟨p, op, p + far, low, numbered p low r3.1⟩, r3.2)
def casesP (srch : Bool) (p : Nat) (op : Int) (x : List UInt8) : Option (Ins × List UInt8) := (numP 4 true x).bind fun r1 =>
  if srch = true then (numP 4 false r1.2).bind fun r2 => if r2.1 ≤ 256 then tailP srch p op r1.1 0 r2.1 r2.2 else none
  else (numP 4 true r1.2).bind fun r2 => (numP 4 true r2.2).bind fun r3 => if 1 ≤ r3.1 - r2.1 + 1 ∧ r3.1 - r2.1 + 1 ≤ 256 then tailP srch p op r1.1 r2.1 (r3.1 - r2.1 + 1) r3.2 else none
theorem tab_cases (p : Nat) (op : Int) (x : List UInt8) : (tabF p op).parse x = ((padF (padOf p)).parse x).bind fun r0 => casesP false p op r0.2 := by
  rw [tab_parse]
  congr 1
  funext r0
  unfold casesP
  simp only [num_parse, Bool.false_eq_true, if_false]
  congr 1
  funext r1
  show Option.bind (Option.bind (Option.bind (numP 4 true r1.2) fun r => Option.map (fun s => ((r.1, s.1), s.2)) (numP 4 true r.2)) fun r => if (decide (1 ≤ r.1.2 - r.1.1 + 1) && decide (r.1.2 - r.1.1 + 1 ≤ 256)) = true then some r else none) _ = _
  cases numP 4 true r1.2 with
  | none => rfl
  | some r2 =>
    simp only [Option.bind_some]
    cases numP 4 true r2.2 with
    | none => rfl
    | some r3 =>
      simp only [Option.map_some, Option.bind_some, Bool.and_eq_true, decide_eq_true_eq]
      split
      · rw [Option.bind_some]
        unfold tailP
        rw [if_neg (by decide)]
      · rfl
theorem sch_cases (p : Nat) (op : Int) (x : List UInt8) : (schF p op).parse x = ((padF (padOf p)).parse x).bind fun r0 => casesP true p op r0.2 := by
  rw [sch_parse]
  congr 1
  funext r0
  unfold casesP
  simp only [num_parse, if_true]
  congr 1
  funext r1
  show Option.bind (Option.bind (numP 4 false r1.2) fun r => if decide (r.1 ≤ 256) = true then some r else none) _ = _
  cases numP 4 false r1.2 with
  | none => rfl
  | some r2 =>
    simp only [Option.bind_some, decide_eq_true_eq]
    split
    · rw [Option.bind_some]
      unfold tailP
      rw [if_pos rfl]
    · rfl

/-! ### One case after the other -/
def restP (srch : Bool) (p : Nat) (low : Int) (m : Nat) (acc : List Cs) (acc0 : List (Int × Int)) (x : List UInt8) : Option (List Cs × List UInt8) :=
  if srch = true then (manyP (dseq (num 4 true w4) fun _ => num 4 true w4) m x).bind (riseIf acc0 p) else (manyP (num 4 true w4) m x).map fun r => (acc ++ numbered p (low + acc.length) r.1, r.2)
theorem tail_rest (srch : Bool) (p : Nat) (op far low n : Int) (x : List UInt8) : tailP srch p op far low n x = (restP srch p low n.toNat [] [] x).map fun r => (⟨p, op, p + far, low, r.1⟩, r.2) := by
  unfold tailP restP
  cases srch with
  | true => rfl
  | false =>
    simp only [Bool.false_eq_true, if_false, Option.map_map]
    congr 1
    funext r
    simp
theorem pair_parse (x : List UInt8) : (dseq (num 4 true w4) fun _ => num 4 true w4).parse x = (numP 4 true x).bind fun r => (numP 4 true r.2).map fun s => ((r.1, s.1), s.2) := rfl
theorem rest_done (srch : Bool) (p : Nat) (low : Int) (acc : List Cs) (acc0 : List (Int × Int)) (x : List UInt8) (h : srch = true → acc = acc0.map (toCs p) ∧ riseB acc0 = true) : restP srch p low 0 acc acc0 x = some (acc, x) := by
  unfold restP
  cases srch with
  | true =>
    obtain ⟨h1, h2⟩ := h rfl
    simp [manyP, riseIf, h1, h2]
  | false => simp [manyP, numbered]
theorem rest_count (p : Nat) (low : Int) (m : Nat) (acc : List Cs) (acc0 : List (Int × Int)) (x : List UInt8) : restP false p low (m + 1) acc acc0 x = (numP 4 true x).bind fun r => restP false p low m (acc ++ [⟨low + acc.length, p + r.1⟩]) acc0 r.2 := by
  unfold restP
  simp only [Bool.false_eq_true, if_false]
  rw [manyP, num_parse]
  cases numP 4 true x with
  | none => rfl
  | some r =>
    simp only [Option.bind_some, Option.map_map]
    congr 1
    funext s
    simp [numbered, Int.add_assoc]
theorem rest_none1 (p : Nat) (low : Int) (m : Nat) (acc : List Cs) (acc0 : List (Int × Int)) (x : List UInt8) (h : numP 4 true x = none) : restP true p low (m + 1) acc acc0 x = none := by
  unfold restP
  simp only [if_true]
  rw [manyP, pair_parse, h]
  rfl
theorem rest_none2 (p : Nat) (low : Int) (m : Nat) (acc : List Cs) (acc0 : List (Int × Int)) (x : List UInt8) {v : Int} {y : List UInt8} (h : numP 4 true x = some (v, y)) (h2 : numP 4 true y = none) : restP true p low (m + 1) acc acc0 x = none := by
  unfold restP
  simp only [if_true]
  rw [manyP, pair_parse, h, Option.bind_some]
  simp only
  rw [h2]
  rfl
theorem rest_key (p : Nat) (low : Int) (m : Nat) (acc : List Cs) (acc0 : List (Int × Int)) (x : List UInt8) {v u : Int} {y z : List UInt8} (h : numP 4 true x = some (v, y)) (h2 : numP 4 true y = some (u, z)) :
    restP true p low (m + 1) acc acc0 x = restP true p low m (acc ++ [⟨v, p + u⟩]) (acc0 ++ [(v, u)]) z := by
  unfold restP
  simp only [if_true]
  rw [manyP, pair_parse, h, Option.bind_some]
  simp only
  rw [h2]
  simp only [Option.map_some, Option.bind_some]
  cases manyP (dseq (num 4 true w4) fun _ => num 4 true w4) m z with
  | none => rfl
  | some t =>
    simp only [Option.map_some, Option.bind_some]
    unfold riseIf
    simp [List.append_assoc]
theorem rest_fall (p : Nat) (low : Int) (m : Nat) (acc : List Cs) (acc0 : List (Int × Int)) (x : List UInt8) {v : Int} {y : List UInt8} (h : numP 4 true x = some (v, y)) (hr : ∀ u, riseB (acc0 ++ [(v, u)]) = false) : restP true p low (m + 1) acc acc0 x = none := by
  unfold restP
  simp only [if_true]
  rw [manyP, pair_parse, h, Option.bind_some]
  simp only
  cases hm : numP 4 true y with
  | none => rfl
  | some s =>
    simp only [Option.map_some, Option.bind_some]
    cases manyP (dseq (num 4 true w4) fun _ => num 4 true w4) m s.2 with
    | none => rfl
    | some t =>
      simp only [Option.map_some, Option.bind_some]
      unfold riseIf
      rw [if_neg]
      intro h
      have h2 := rise_app (acc0 ++ [(v, s.1)]) t.1 (by rw [List.append_assoc]; exact h)
      rw [hr] at h2
      cases h2
theorem rise_last (acc0 : List (Int × Int)) (p v u : Int) (h : riseB acc0 = true) : riseB (acc0 ++ [(v, u)]) = !(decide (acc0.map (toCs p) ≠ []) && decide (lastKey (acc0.map (toCs p)) ≥ v)) := by
  rcases List.eq_nil_or_concat acc0 with rfl | ⟨l, x, rfl⟩
  · simp [riseB]
  · rw [List.concat_eq_append] at h ⊢
    rw [rise_snoc, h]
    have h1 : lastKey ((l ++ [x]).map (toCs p)) = x.1 := by simp [lastKey, toCs]
    rw [h1]
    by_cases hx : x.1 < v
    · rw [decide_eq_true hx, decide_eq_false (show ¬ x.1 ≥ v by omega)]
      simp
    · rw [decide_eq_false hx, decide_eq_true (show x.1 ≥ v by omega)]
      simp
end Go.Proofs.Ytcpeekeiflglpaa.Code

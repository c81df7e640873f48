/- The package code, walked: the cases of a table or a search are read. -/
import Derived.Test.YtcpeekeiflglpaaCWalk2
import Derived.Test.YtcpeekeiflglpaaArr
namespace Go.Proofs.Ytcpeekeiflglpaa.Code
open Go Go.Proofs.Ytcpeekeiflglpaa Go.Proofs.Ytcpeekeiflglpaa.Eng Go.Proofs Go.Proofs.Ytcpeekeiflglpaa.Word
open Go.Proofs.Ytcpeekeiflglpaa.Pool (numR numR_err rd_modN rd_low RS both)
set_option maxRecDepth 10000

theorem get_bound (sign : Bool) (bs : List UInt8) (i k : Nat) (hk : k = 1 ∨ k = 2 ∨ k = 4) : -2147483648 ≤ (Word.get sign bs i (k : Int)).1 ∧ (Word.get sign bs i (k : Int)).1 ≤ 4294967295 := by
  unfold Word.get
  have hl := be_lt ((bs.drop i).take k)
  have hlen : ((bs.drop i).take k).length ≤ k := by rw [List.length_take]; omega
  have hp : (256 : Nat) ^ ((bs.drop i).take k).length ≤ 256 ^ k := Nat.pow_le_pow_right (by decide) hlen
  rw [Int.toNat_natCast]
  generalize be ((bs.drop i).take k) = v at hl
  have hv : v < 256 ^ k := Nat.lt_of_lt_of_le hl hp
  clear hl hp hlen
  split
  · split
    · exact ⟨by simp, by simp⟩
    · split
      · unfold sval
        rcases hk with rfl | rfl | rfl <;> split <;> simp only <;> omega
      · split
        · rcases hk with rfl | rfl | rfl <;> simp only <;> omega
        · exact ⟨by simp, by simp⟩
  · exact ⟨by simp, by simp⟩
theorem numR_bound (bs : List UInt8) (sign : Bool) (k : Nat) (s : Nat × Int) (hk : k = 1 ∨ k = 2 ∨ k = 4) : -2147483648 ≤ (numR bs sign k s).1 ∧ (numR bs sign k s).1 ≤ 4294967295 := by
  unfold numR
  split
  · exact get_bound sign bs s.1 k hk
  · exact ⟨by simp, by simp⟩

/-! ### In memory -/
abbrev csC (x : Cs) : List Value := [.int .i64 x.key, .int .i64 x.to]
theorem csC_one (x : Cs) : ∀ v ∈ csC x, v.oneCell' = true := by
  intro v hv
  simp only [csC, List.mem_cons, List.not_mem_nil, or_false] at hv
  rcases hv with rfl | rfl <;> rfl
abbrev csF (l : List Cs) : List Value := (l.map csC).flatten
theorem csF_len (l : List Cs) : (csF l).length = l.length * 2 := by
  induction l with
  | nil => rfl
  | cons x l ih => simp only [csF, List.map_cons, List.flatten_cons, List.length_append, List.length_cons] at ih ⊢; rw [ih]; simp; omega
theorem csF_snoc (l : List Cs) (x : Cs) : csF (l ++ [x]) = csF l ++ csC x := by simp [csF]
theorem csF_get (l : List Cs) (i : Nat) (hi : i < l.length) : (csF l)[i * 2]? = some (.int .i64 l[i].key) ∧ (csF l)[i * 2 + 1]? = some (.int .i64 l[i].to) := by
  induction l generalizing i with
  | nil => simp at hi
  | cons x l ih =>
    cases i with
    | zero => exact ⟨rfl, rfl⟩
    | succ i =>
      have := ih i (by simpa using hi)
      have e1 : (i + 1) * 2 = i * 2 + 2 := by omega
      have e2 : (i + 1) * 2 + 1 = i * 2 + 1 + 2 := by omega
      rw [e1, show i * 2 + 2 + 1 = i * 2 + 1 + 2 from rfl]
      exact this
abbrev insC (x : Ins) (v : Value) : List Value := [.int .i64 x.p, .int .i64 x.op, .int .i64 x.a, .int .i64 x.b, v]
abbrev nilC : Value := .slice none 0 0
theorem insC_one (x : Ins) {v : Value} (h : v.oneCell' = true) : ∀ u ∈ insC x v, u.oneCell' = true := by
  intro u hu
  simp only [insC, List.mem_cons, List.not_mem_nil, or_false] at hu
  rcases hu with rfl | rfl | rfl | rfl | rfl <;> first
    | rfl
    | exact h
/-- What a reading of cases may turn. -/
abbrev RX (h g X : Nat) : Nat → Prop := fun b => RS h g b ∨ b = X
theorem headR_of (bs : List UInt8) (srch : Bool) (s : Nat × Int) : headR bs srch s = (if srch = true then
    ((0, (numR bs false 4 s).1), stopR 1 (decide ((numR bs false 4 s).1 > 256)) (numR bs false 4 s).2)
  else (((numR bs true 4 s).1, (numR bs true 4 (numR bs true 4 s).2).1 - (numR bs true 4 s).1 + 1),
    stopR 1 (decide ((numR bs true 4 (numR bs true 4 s).2).1 - (numR bs true 4 s).1 + 1 > 256)) (stopR 1 (decide ((numR bs true 4 (numR bs true 4 s).2).1 - (numR bs true 4 s).1 + 1 < 1)) (numR bs true 4 (numR bs true 4 s).2).2))) := rfl
theorem loopC_step {bs : List UInt8} {srch : Bool} {p low : Int} {acc : List Cs} {s : Nat × Int} {f : Nat} (h : s.2 = 0) : loopC bs srch p low (f + 1) acc s = loopC bs srch p low f (acc ++ [(caseR bs srch p low acc s).1]) (caseR bs srch p low acc s).2 := by rw [loopC, if_pos h]
theorem key_stop {bs : List UInt8} {low : Int} {acc : List Cs} {s : Nat × Int} : keyR bs true low acc s = ((numR bs true 4 s).1, stopR 1 (decide (acc ≠ []) && decide (lastKey acc ≥ (numR bs true 4 s).1)) (numR bs true 4 s).2) := rfl
theorem key_count {bs : List UInt8} {low : Int} {acc : List Cs} {s : Nat × Int} : keyR bs false low acc s = (low + acc.length, s) := rfl

theorem lastKey_eq (acc : List Cs) (h : acc.length - 1 < acc.length) : lastKey acc = (acc[acc.length - 1]'h).key := by
  unfold lastKey
  rw [List.getLast?_eq_getElem?, List.getElem?_eq_getElem h]
  rfl
theorem caseR_eq (bs : List UInt8) (srch : Bool) (p low : Int) (acc : List Cs) (s : Nat × Int) : caseR bs srch p low acc s =
    (⟨(keyR bs srch low acc s).1, p + (numR bs true 4 (keyR bs srch low acc s).2).1⟩, (numR bs true 4 (keyR bs srch low acc s).2).2) := rfl
theorem cases_ok (h g X : Nat) (A : Option Addr) (c : Nat) (bs : List UInt8) (s : Nat × Int) (p : Nat) (op : Int) (f : Int) (srch : Bool) (w : World) (hf : f = 8 ∧ srch = false ∨ f = 9 ∧ srch = true) (r : Cr w h g A c bs s)
    (hX : w.heap[X]? = some (.cells (insC ⟨p, op, 0, 0, []⟩ nilC).toArray 62 (0, 0))) (hXh : X ≠ h) (hXg : X ≠ g) (hXa : ∀ a, A = some a → bs ≠ [] → a.block ≠ X) (hp : p ≤ 140737488355328) :
    Calls Try.prog 87 #[.pointer (some ⟨h, 0, none⟩), .pointer (some ⟨X, 0, none⟩), .int .i64 f] w fun e w' => e = .returned (.tuple #[]) ∧
      ∃ v, w'.heap[X]? = some (.cells (insC (casesR bs srch p op s).1 v).toArray 62 (0, 0)) ∧ w'.ownsRow w.heap.size 93 2 v (casesR bs srch p op s).1.cs.length (csF (casesR bs srch p op s).1.cs) ∧
        Cr w' h g A c bs (casesR bs srch p op s).2 ∧ Mod (RX h g X) w w' := by
  refine enter ok Try.func87 rfl rfl rfl ?_
  have hlow := r.low
  obtain ⟨hh, hg⟩ := r.lt
  have hXl : X < w.heap.size := (Array.getElem?_eq_some_iff.1 hX).1
  have hXR : ¬ RS h g X := by rintro (e | e) <;> omega
  have hXX : ∀ a, A = some a → bs ≠ [] → ¬ a.block = X := hXa
  refine seq_cut (σ := Nat × Int) (fun _ => [(0, .pointer (some ⟨h, 0, none⟩)), (1, .pointer (some ⟨X, 0, none⟩)), (2, .int .i64 f)]) (fun t w' => t = padR bs (padOf p) s ∧ Cr w' h g A c bs t ∧ Mod (RS h g) w w') ?_ ?_
  rotate_left
  · intro K hK
    refine Exists.intro (p : Int) (And.intro (cellB hX rfl) ?_)
    refine call_ (pad_ok p w (by omega)) ?_
    rintro e w0 ⟨rfl, hw0⟩
    obtain rfl := hw0.symm
    refine ⟨_, rfl, ?_⟩
    have hpad : padOf p ≤ 3 := by unfold padOf; omega
    refine den_loop (σ := Nat × Nat × Int) (fun t => [(0, .pointer (some ⟨h, 0, none⟩)), (1, .pointer (some ⟨X, 0, none⟩)), (2, .int .i64 f), (13, .int .i64 (padOf p : Int)), (14, .int .i64 (t.1 : Int))])
      (fun m t wl => t.1 + m = padOf p ∧ padR bs m t.2 = padR bs (padOf p) s ∧ Cr wl h g A c bs t.2 ∧ Mod (RS h g) w wl) (padOf p) (0, s)
      ⟨rfl, rfl, rfl, rfl, rfl, trivial⟩ ⟨by simp, rfl, r, (New.refl _).mod⟩ ?_
    rintro m ⟨i, s1⟩ wl fr0 ⟨hi, hpr, rl, kl⟩
    dsimp only at hi hpr rl
    refine if_p (fun hlt => ?_) (fun hge => ?_)
    · replace hlt : (i : Int) < (padOf p : Int) := hlt
      obtain ⟨m, rfl⟩ : ∃ m', m = m' + 1 := ⟨m - 1, by omega⟩
      rw [padR] at hpr
      refine Exists.intro (some ⟨g, 0, none⟩) (And.intro (cellB rl.blk rfl) ?_)
      refine call_ (get_ok h g A c bs s1 false 1 wl rl) ?_
      rintro e w6 ⟨rfl, r6, m6⟩
      refine ⟨_, rfl, ?_⟩
      have k6 := both kl m6
      have inc : Value.int .i64 (IntKind.i64.wrap ((i : Int) + 1)) = .int .i64 ((i + 1 : Nat) : Int) := by
        rw [wrap_i64 (by omega) (by omega)]
        rfl
      unfold padStep at hpr
      generalize numR bs false 1 s1 = q at hpr r6
      have hb6 := r6.blk
      refine if_n (fun hne => ?_) (fun h0 => ?_)
      · rw [if_pos (show q.1 ≠ 0 from hne)] at hpr
        refine And.intro ⟨_, cellB hb6 rfl⟩ (And.intro (fzB hb6 _) (force_ ?_))
        refine stK hb6 (show (1 : Nat) < 2 by decide) ?_
        intro w7 hb7 m7 s7
        exact ⟨m, (i + 1, q.2.1, 1), by omega, ⟨rfl, rfl, rfl, rfl, inc, trivial⟩, by dsimp only; omega, hpr, r6.set m7 1 hb7 rfl, both k6 (m7.mono fun _ _ e => .inr e)⟩
      · rw [if_neg (show ¬ q.1 ≠ 0 from fun hc => hc h0)] at hpr
        refine Exists.intro (!decide (q.2.2 = 0)) (And.intro (cellB hb6 rfl) ?_)
        refine And.intro ⟨_, cellB hb6 rfl⟩ (And.intro (fzB hb6 _) (force_ ?_))
        refine stK hb6 (show (1 : Nat) < 2 by decide) ?_
        intro w7 hb7 m7 s7
        exact ⟨m, (i + 1, q.2), by omega, ⟨rfl, rfl, rfl, rfl, inc, trivial⟩, by dsimp only; omega, hpr, r6.set m7 q.2.2 hb7 rfl, both k6 (m7.mono fun _ _ e => .inr e)⟩
    replace hge : ¬ (i : Int) < (padOf p : Int) := hge
    obtain rfl : m = 0 := by omega
    rw [padR] at hpr
    exact hK s1 _ _ ⟨rfl, rfl, rfl, trivial⟩ ⟨hpr, rl, kl⟩
  rintro s1 wl fr1 ⟨hpr, rl, kl⟩
  unfold casesR
  rw [← hpr]
  clear hpr
  refine seq_cut (σ := Int × Nat × Int) (fun _ => [(0, .pointer (some ⟨h, 0, none⟩)), (1, .pointer (some ⟨X, 0, none⟩)), (2, .int .i64 f)]) (fun t w' => t = numR bs true 4 s1 ∧ Cr w' h g A c bs t.2 ∧ Mod (RX h g X) w w' ∧ w'.heap[X]? = some (.cells (insC ⟨p, op, p + t.1, 0, []⟩ nilC).toArray 62 (0, 0))) ?_ ?_
  rotate_left
  · intro K hK
    have hXl1 := kl.blk hX hXR
    let CC : World → Prop := fun w' => Mod (RS h g) wl w' ∧ ∃ s', Cr w' h g A c bs s'
    refine draw_ (w := wl) ok (.q 0 (.q 1 (.q 2 (.q 3 (.q 4 (.q 5 (.q 6 (.q 7 (.q 8 (.q 9 (.q 10 (.e 11 (.q 12 (.q 13 (.q 14 (.e 15 .done)))))))))))))))) [15] CC (by kernel_rfl) (by kernel_rfl) (by kernel_rfl) (by kernel_rfl) (by kernel_rfl) ⟨(New.drew _).mod, s1, rl.new (New.drew _)⟩ ?_
    refine Exists.intro (p : Int) (And.intro (fun w'' hw => cellB (hw.1.blk hXl1 hXR) rfl) ?_)
    refine Exists.intro (some ⟨g, 0, none⟩) (And.intro (fun w'' hw => cellB hw.2.choose_spec.blk rfl) ?_)
    refine call_ (get_ok h g A c bs s1 true 4 wl.drew (rl.new (New.drew _))) ?_
    rintro e w8 ⟨rfl, r8, m8⟩
    refine ⟨_, rfl, ?_⟩
    have k8 : Mod (RS h g) wl w8 := both (New.drew _).mod m8
    refine Exists.intro CC (And.intro (fun _ h => h) (And.intro ⟨k8, _, r8⟩ ?_))
    have hX8 := k8.blk hXl1 hXR
    have hbd := numR_bound bs true 4 s1 (by omega)
    refine And.intro ⟨_, cellB hX8 rfl⟩ (And.intro (fzB hX8 _) (force_ ?_))
    refine stK hX8 (show (2 : Nat) < 5 by decide) ?_
    intro w9 hX9 m9 s9
    have ea : IntKind.i64.wrap ((p : Int) + (numR bs true 4 s1).1) = p + (numR bs true 4 s1).1 := wrap_i64 (by omega) (by omega)
    rw [ea] at hX9
    have r9 := r8.modN m9 (fun e => hXh e.symm) (fun e => hXg e.symm) hXX
    have k9 : Mod (RX h g X) w w9 := Mod.trans ((both kl k8).mono fun _ _ e => .inl e) m9 fun _ _ e => .inr e
    exact hK (numR bs true 4 s1) _ _ ⟨rfl, rfl, rfl, trivial⟩ ⟨rfl, r9, k9, hX9⟩
  rintro ⟨far, s8⟩ w9 fr9 ⟨hq1, r9, k9, hX9⟩
  rw [← hq1]
  dsimp only at r9 hX9 ⊢
  clear hq1
  refine seq_assign ?_
  refine seq_cut (σ := (Int × Int) × Nat × Int) (fun t => [(0, .pointer (some ⟨h, 0, none⟩)), (1, .pointer (some ⟨X, 0, none⟩)), (2, .int .i64 f), (6, .int .i64 t.1.2)])
    (fun t w' => headR bs srch s8 = (t.1, stopR 1 (decide (t.1.2 > 256)) t.2) ∧ -8589934592 ≤ t.1.2 ∧ t.1.2 ≤ 8589934592 ∧ -2147483648 ≤ t.1.1 ∧ t.1.1 ≤ 4294967295 ∧ Cr w' h g A c bs t.2 ∧ Mod (RX h g X) w w' ∧ w'.heap[X]? = some (.cells (insC ⟨p, op, p + far, t.1.1, []⟩ nilC).toArray 62 (0, 0))) ?_ ?_
  rotate_left
  · intro K hK
    refine if_p (fun h8 => ?_) (fun h8 => ?_)
    · replace h8 : f = 8 := h8
      obtain rfl : srch = false := by
        rcases hf with hf | hf
        · exact hf.2
        · omega
      have hb9 := r9.blk
      refine Exists.intro (some ⟨g, 0, none⟩) (And.intro (cellB hb9 rfl) ?_)
      refine call_ (get_ok h g A c bs s8 true 4 w9 r9) ?_
      rintro e w13 ⟨rfl, r13, m13⟩
      refine ⟨_, rfl, ?_⟩
      have hX13 := m13.blk hX9 hXR
      have hb1 := numR_bound bs true 4 s8 (by omega)
      refine And.intro ⟨_, cellB hX13 rfl⟩ (And.intro (fzB hX13 _) (force_ ?_))
      refine stK hX13 (show (3 : Nat) < 5 by decide) ?_
      intro w14 hX14 m14 s14
      have r14 := r13.modN m14 (fun e => hXh e.symm) (fun e => hXg e.symm) hXX
      have k14 : Mod (RX h g X) w w14 := both k9 (Mod.trans (S := RX h g X) (m13.mono fun _ _ e => .inl e) m14 fun _ _ e => .inr e)
      rw [headR_of, if_neg (show ¬ false = true by decide)] at hK
      generalize numR bs true 4 s8 = q2 at hK r14 hX14 hb1
      obtain ⟨low, s14'⟩ := q2
      dsimp only at hK r14 hX14 hb1
      let CC2 : World → Prop := fun w' => Mod (RS h g) w14 w' ∧ ∃ s', Cr w' h g A c bs s'
      refine draw_ (w := w14) ok (.q 0 (.q 1 (.q 2 (.q 3 (.q 4 (.q 5 (.q 7 (.q 8 (.q 9 (.q 10 (.e 6 (.q 11 (.q 12 (.q 13 .done)))))))))))))) [13] CC2 (by kernel_rfl) (by kernel_rfl) (by kernel_rfl) (by kernel_rfl) (by kernel_rfl) ⟨(New.drew _).mod, s14', r14.new (New.drew _)⟩ ?_
      refine Exists.intro (some ⟨g, 0, none⟩) (And.intro (fun w'' hw => cellB hw.2.choose_spec.blk rfl) ?_)
      refine Exists.intro low (And.intro (fun w'' hw => cellB (hw.1.blk hX14 hXR) rfl) ?_)
      refine call_ (get_ok h g A c bs s14' true 4 w14.drew (r14.new (New.drew _))) ?_
      rintro e w19 ⟨rfl, r19, m19⟩
      refine ⟨_, rfl, ?_⟩
      have k19 : Mod (RS h g) w14 w19 := both (New.drew _).mod m19
      refine Exists.intro CC2 (And.intro (fun _ h => h) (And.intro ⟨k19, _, r19⟩ ?_))
      have hb2 := numR_bound bs true 4 s14' (by omega)
      have hX19 := k19.blk hX14 hXR
      have K19 : Mod (RX h g X) w w19 := both k14 (k19.mono fun _ _ e => .inl e)
      generalize numR bs true 4 s14' = q3 at hK r19 hb2
      obtain ⟨high, s19'⟩ := q3
      dsimp only at hK r19 hb2
      have e1 : IntKind.i64.wrap (high - low) = high - low := wrap_i64 (by omega) (by omega)
      have e2 : IntKind.i64.wrap (high - low + 1) = high - low + 1 := wrap_i64 (by omega) (by omega)
      have e3 : IntKind.i64.wrap (IntKind.i64.wrap (high - low) + 1) = high - low + 1 := by rw [e1, e2]
      have hb19 := r19.blk
      refine Exists.intro (!decide (s19'.2 = 0)) (And.intro (cellB hb19 rfl) ?_)
      have sn : Value.int .i64 (IntKind.i64.wrap (IntKind.i64.wrap (high - low) + 1)) = .int .i64 (high - low + 1) := by rw [e3]
      refine if_n (fun hne => ?_) (fun h0 => ?_)
      · replace hne : ¬ s19'.2 = 0 := hne
        refine And.intro ⟨_, cellB hb19 rfl⟩ (And.intro (fzB hb19 _) (force_ ?_))
        refine stK hb19 (show (1 : Nat) < 2 by decide) ?_
        intro w20 hb20 m20 s20
        have hX20 := m20.blk hX19 hXh
        have K20 : Mod (RX h g X) w w20 := Mod.trans K19 m20 fun _ _ e => .inl (.inr e)
        refine hK ((low, high - low + 1), s19') _ _ ⟨rfl, rfl, rfl, sn, trivial⟩ ⟨?_, by dsimp only; omega, by dsimp only; omega, by dsimp only; omega, by dsimp only; omega, r19.set m20 s19'.2 hb20 (by rw [decide_eq_false hne]; rfl), K20, hX20⟩
        rw [stopR_err (k := 1) (t := decide (high - low + 1 < 1)) (show s19'.2 ≠ 0 from hne)]
      · replace h0 : s19'.2 = 0 := h0
        refine And.intro ⟨_, cellB hb19 rfl⟩ (And.intro (fzB hb19 _) (force_ ?_))
        refine stK hb19 (show (1 : Nat) < 2 by decide) ?_
        intro w20 hb20 m20 s20
        have hX20 := m20.blk hX19 hXh
        have K20 : Mod (RX h g X) w w20 := Mod.trans K19 m20 fun _ _ e => .inl (.inr e)
        rw [e3] at hb20
        refine hK ((low, high - low + 1), stopR 1 (decide (high - low + 1 < 1)) s19') _ _ ⟨rfl, rfl, rfl, sn, trivial⟩ ⟨rfl, by dsimp only; omega, by dsimp only; omega, by dsimp only; omega, by dsimp only; omega, ?_, K20, hX20⟩
        have := r19.set m20 (if high - low + 1 < 1 then 1 else 0) hb20 (by split <;> simp_all)
        have hst : stopR 1 (decide (high - low + 1 < 1)) s19' = (s19'.1, if high - low + 1 < 1 then 1 else 0) := by
          unfold stopR
          rw [if_neg (fun hc => hc h0)]
          split
          · rename_i h1
            rw [if_pos (of_decide_eq_true h1)]
          · rename_i h1
            rw [if_neg (fun h2 => h1 (decide_eq_true h2))]
            exact Prod.ext rfl h0
        rw [hst]
        exact this
    · replace h8 : ¬ f = 8 := h8
      obtain rfl : srch = true := by
        rcases hf with hf | hf
        · omega
        · exact hf.2
      have hb9 := r9.blk
      refine Exists.intro (some ⟨g, 0, none⟩) (And.intro (cellB hb9 rfl) ?_)
      refine call_ (get_ok h g A c bs s8 false 4 w9 r9) ?_
      rintro e w13 ⟨rfl, r13, m13⟩
      refine ⟨_, rfl, ?_⟩
      have hX13 := m13.blk hX9 hXR
      have hb1 := numR_bound bs false 4 s8 (by omega)
      refine hK ((0, (numR bs false 4 s8).1), (numR bs false 4 s8).2) _ _ ⟨rfl, rfl, rfl, rfl, trivial⟩ ⟨rfl, by dsimp only; omega, by dsimp only; omega, by dsimp only; omega, by dsimp only; omega, r13, both k9 (m13.mono fun _ _ e => .inl e), hX13⟩
  rintro ⟨⟨low, n⟩, s9'⟩ w10 fr10 ⟨hhead, hn0, hn1, hl0, hl1, r10, k10, hX10⟩
  dsimp only at hhead hn0 hn1 hl0 hl1 r10 hX10
  rw [hhead]
  refine seq_cut (σ := Unit) (fun _ => [(0, .pointer (some ⟨h, 0, none⟩)), (1, .pointer (some ⟨X, 0, none⟩)), (2, .int .i64 f), (6, .int .i64 n)])
    (fun _ w' => Cr w' h g A c bs (stopR 1 (decide (n > 256)) s9') ∧ Mod (RX h g X) w w' ∧ w'.heap[X]? = some (.cells (insC ⟨p, op, p + far, low, []⟩ nilC).toArray 62 (0, 0))) ?_ ?_
  rotate_left
  · intro K hK
    have hb10 := r10.blk
    refine Exists.intro (!decide (s9'.2 = 0)) (And.intro (cellB hb10 rfl) ?_)
    refine if_n (fun hne => ?_) (fun h0 => ?_)
    · replace hne : ¬ s9'.2 = 0 := hne
      refine And.intro ⟨_, cellB hb10 rfl⟩ (And.intro (fzB hb10 _) (force_ ?_))
      refine stK hb10 (show (1 : Nat) < 2 by decide) ?_
      intro w20 hb20 m20 s20
      refine hK () _ _ ⟨rfl, rfl, rfl, rfl, trivial⟩ ⟨?_, Mod.trans k10 m20 fun _ _ e => .inl (.inr e), m20.blk hX10 hXh⟩
      rw [stopR_err hne]
      exact r10.set m20 s9'.2 hb20 (by rw [decide_eq_false hne]; rfl)
    · replace h0 : s9'.2 = 0 := h0
      refine And.intro ⟨_, cellB hb10 rfl⟩ (And.intro (fzB hb10 _) (force_ ?_))
      refine stK hb10 (show (1 : Nat) < 2 by decide) ?_
      intro w20 hb20 m20 s20
      refine hK () _ _ ⟨rfl, rfl, rfl, rfl, trivial⟩ ⟨?_, Mod.trans k10 m20 fun _ _ e => .inl (.inr e), m20.blk hX10 hXh⟩
      have := r10.set m20 (if 256 < n then 1 else 0) hb20 (by split <;> simp_all)
      have hst : stopR 1 (decide (n > 256)) s9' = (s9'.1, if 256 < n then 1 else 0) := by
        unfold stopR
        rw [if_neg (fun hc => hc h0)]
        split
        · rename_i h1
          rw [if_pos (of_decide_eq_true h1)]
        · rename_i h1
          rw [if_neg (fun h2 => h1 (decide_eq_true h2))]
          exact Prod.ext rfl h0
      rw [hst]
      exact this
  rintro _ w11 fr11 ⟨r11, k11, hX11⟩
  have h256 : (stopR 1 (decide (n > 256)) s9').2 = 0 → n ≤ 256 := fun h0 => by
    unfold stopR at h0
    split at h0
    · rename_i h1
      exact absurd h0 h1
    · split at h0
      · simp at h0
      · rename_i h1
        exact Int.not_lt.1 (fun h2 => h1 (decide_eq_true h2))
  unfold casesEnd
  dsimp only
  generalize stopR 1 (decide (n > 256)) s9' = s0 at r11 h256
  clear r10 hX10 k10 hhead
  refine seq_assign ?_
  refine den_loop (σ := (Option Addr × Nat) × List Cs × Nat × Int) (fun t => [(0, .pointer (some ⟨h, 0, none⟩)), (1, .pointer (some ⟨X, 0, none⟩)), (2, .int .i64 f), (6, .int .i64 n), (7, .int .i64 (t.2.1.length : Int))])
    (fun m t wl => loopC bs srch p low m t.2.1 t.2.2 = loopC bs srch p low n.toNat [] s0 ∧ m + t.2.1.length = n.toNat ∧ (t.2.2.2 = 0 → n ≤ 256) ∧ t.2.1.length ≤ 256 ∧ Cr wl h g A c bs t.2.2 ∧ Mod (RX h g X) w wl ∧
      wl.heap[X]? = some (.cells (insC ⟨p, op, p + far, low, t.2.1⟩ (.slice t.1.1 t.2.1.length t.1.2)).toArray 62 (0, 0)) ∧ wl.ownsRow w.heap.size 93 2 (.slice t.1.1 t.2.1.length t.1.2) t.2.1.length (csF t.2.1)) n.toNat ((none, 0), [], s0)
    ⟨rfl, rfl, rfl, rfl, rfl, trivial⟩ ⟨rfl, by simp, h256, by simp, r11, k11, hX11, ⟨rfl, .inl ⟨rfl, rfl⟩⟩⟩ ?_
  rintro m ⟨⟨Al, cl⟩, acc, s'⟩ wl fr0 ⟨hloop, hfuel, h256', hacc, rl, kl, hXl', own⟩
  dsimp only at hloop hfuel h256' hacc rl hXl' own
  have hown := fun b (e : (Value.slice Al acc.length cl).ownBlock = some b) => own.lt b e
  have hlw : w.heap.size ≤ wl.heap.size := kl.size
  refine if_p (fun hlt => ?_) (fun hge => ?_)
  · replace hlt : (acc.length : Int) < n := hlt
    have hb12 := rl.blk
    refine Exists.intro (!decide (s'.2 = 0)) (And.intro (cellB hb12 rfl) ?_)
    refine if_ (fun hz => ?_) (fun hz => ?_)
    · replace hz : s'.2 = 0 := by simpa using hz
      obtain ⟨m, rfl⟩ : ∃ m', m = m' + 1 := ⟨m - 1, by omega⟩
      rw [loopC_step hz, caseR_eq] at hloop
      have hn256 := h256' hz
      have hhl := Nat.lt_of_lt_of_le hh hlw
      have hgl := Nat.lt_of_lt_of_le hg hlw
      have hXlw := Nat.lt_of_lt_of_le hXl hlw
      have hYh : ¬ h = wl.heap.size := by omega
      have hYg : ¬ g = wl.heap.size := by omega
      have hYX : ¬ X = wl.heap.size := by omega
      have hYa : ∀ a, A = some a → bs ≠ [] → ¬ a.block = wl.heap.size := fun a ha hn e => by have := hlow a ha hn; omega
      let St : World → Cs → Nat × Int → Prop := fun w' y t => Cr w' h g A c bs t ∧ Mod (RX h g X) w w' ∧ w'.heap[X]? = some (.cells (insC ⟨p, op, p + far, low, acc⟩ (.slice Al acc.length cl)).toArray 62 (0, 0)) ∧
        w'.ownsRow w.heap.size 93 2 (.slice Al acc.length cl) acc.length (csF acc) ∧ w'.heap[wl.heap.size]? = some (.cells (csC y).toArray 93 (0, 0)) ∧ wl.heap.size < w'.heap.size
      have stR : ∀ {w' : World} {y : Cs} {t : Nat × Int} {w'' : World} {t' : Nat × Int}, St w' y t → Mod (RS h g) w' w'' → Cr w'' h g A c bs t' → St w'' y t' := fun {w' y t w'' t'} q m r' =>
        ⟨r', both q.2.1 (m.mono fun _ _ e => .inl e), m.blk q.2.2.1 hXR, own_mod m q.2.2.2.1 (fun b hb e => by have := hown b hb; rcases e with e | e <;> omega), m.blk q.2.2.2.2.1 (fun e => by rcases e with e | e <;> omega), Nat.lt_of_lt_of_le q.2.2.2.2.2 m.size⟩
      have stY : ∀ {w' : World} {y : Cs} {t : Nat × Int} {w'' : World} (y' : Cs), St w' y t → Mod (fun b => b = wl.heap.size) w' w'' → w''.heap[wl.heap.size]? = some (.cells (csC y').toArray 93 (0, 0)) → St w'' y' t := fun {w' y t w''} y' q m hb =>
        ⟨q.1.modN m hYh hYg hYa, Mod.trans q.2.1 m (fun b hb e => by omega), m.blk q.2.2.1 hYX, own_mod m q.2.2.2.1 (fun b hb e => by have := hown b hb; omega), hb, Nat.lt_of_lt_of_le q.2.2.2.2.2 m.size⟩
      refine skip_ (thenF_ ?_)
      refine seq_ (block_ ?_)
      refine seq_cut (σ := Unit) (fun _ => [(0, .pointer (some ⟨h, 0, none⟩)), (1, .pointer (some ⟨X, 0, none⟩)), (2, .int .i64 f), (6, .int .i64 n), (7, .int .i64 (acc.length : Int)), (8, .pointer (some ⟨wl.heap.size, 0, none⟩))])
        (fun _ w' => St w' ⟨low + acc.length, 0⟩ s') ?_ ?_
      rotate_left
      · intro K hK
        refine Exists.intro low (And.intro (cellB hXl' rfl) ?_)
        refine And.intro rfl ?_
        refine storeNew (vs := [.int .i64 (IntKind.i64.wrap (low + acc.length)), .int .i64 0]) (arr := #[.int .i64 0, .int .i64 0]) rfl (by
          intro v hv
          simp only [List.mem_cons, List.not_mem_nil, or_false] at hv
          rcases hv with rfl | rfl <;> rfl) ?_
        intro w12 hb12 n12 s12
        rw [wrap_i64 (show -9223372036854775808 ≤ low + acc.length by omega) (by omega)] at hb12
        refine hK () _ _ ⟨rfl, rfl, rfl, rfl, rfl, rfl, trivial⟩ ⟨rl.new n12, both kl n12.mod, n12.blk hXl', own_new n12 own, hb12, by omega⟩
      rintro _ w12 fr12 st12
      refine seq_cut (σ := Int × Nat × Int) (fun _ => [(0, .pointer (some ⟨h, 0, none⟩)), (1, .pointer (some ⟨X, 0, none⟩)), (2, .int .i64 f), (6, .int .i64 n), (7, .int .i64 (acc.length : Int)), (8, .pointer (some ⟨wl.heap.size, 0, none⟩))])
        (fun t w' => t = keyR bs srch low acc s' ∧ St w' ⟨t.1, 0⟩ t.2) ?_ ?_
      rotate_left
      · intro K hK
        refine if_p (fun h9 => ?_) (fun h9 => ?_)
        · replace h9 : f = 9 := h9
          obtain rfl : srch = true := by
            rcases hf with hf | hf
            · omega
            · exact hf.2
          refine Exists.intro (some ⟨g, 0, none⟩) (And.intro (cellB st12.1.blk rfl) ?_)
          refine call_ (get_ok h g A c bs s' true 4 w12 st12.1) ?_
          rintro e w13 ⟨rfl, r13, m13⟩
          refine ⟨_, rfl, ?_⟩
          have st13 := stR st12 m13 r13
          have hY13 := st13.2.2.2.2.1
          refine And.intro ⟨_, cellB hY13 rfl⟩ (And.intro (fzB hY13 _) (force_ ?_))
          refine stK hY13 (show (0 : Nat) < 2 by decide) ?_
          intro w14 hY14 m14 s14
          have st14 := stY ⟨(numR bs true 4 s').1, 0⟩ st13 m14 hY14
          rw [key_stop] at hK
          generalize numR bs true 4 s' = q at hK st14
          obtain ⟨key, t⟩ := q
          dsimp only at hK st14
          refine draw_ (w := w14) ok (.q 0 (.q 1 (.q 2 (.q 3 (.q 4 (.q 5 (.q 6 (.q 7 (.q 8 (.q 9 (.q 10 (.q 11 (.q 12 (.q 13 (.q 14 (.q 15 (.q 16 (.q 17 (.q 18 (.q 19 (.q 20 (.q 21 (.q 22 (.q 23 (.q 24 (.e 25 .done)))))))))))))))))))))))))) [25] (New w14) (by kernel_rfl) (by kernel_rfl) (by kernel_rfl) (by kernel_rfl) (by kernel_rfl) (New.drew _) ?_
          have st15 := stR st14 (New.drew w14).mod (st14.1.new (New.drew _))
          have hh15 := st15.1.blk
          refine Exists.intro (!decide (t.2 = 0)) (And.intro (fun w'' hw => cellB (hw.blk st14.1.blk) rfl) ?_)
          refine if_n (fun hne => ?_) (fun h0 => ?_)
          · replace hne : ¬ t.2 = 0 := hne
            refine And.intro ⟨_, cellB hh15 rfl⟩ (And.intro (fzB hh15 _) (force_ ?_))
            refine stK hh15 (show (1 : Nat) < 2 by decide) ?_
            intro w16 hb16 m16 s16
            have r16 := st15.1.set m16 t.2 hb16 (by rw [decide_eq_false hne]; rfl)
            have st16 := stR st15 (m16.mono fun _ _ e => .inr e) r16
            exact hK (key, t) _ _ ⟨rfl, rfl, rfl, rfl, rfl, rfl, trivial⟩ ⟨by rw [stopR_err (show t.2 ≠ 0 from hne)], st16⟩
          · replace h0 : t.2 = 0 := h0
            refine if_p (fun hk => ?_) (fun hk => ?_)
            · replace hk : (0 : Int) < acc.length := hk
              have hpos : 0 < acc.length := by omega
              obtain ⟨row, g2, c2, hs2, _, _⟩ : Row w14 Al (csF acc) ∧ ∃ g2 c2, Value.slice Al acc.length cl = .slice (some ⟨g2, 0, none⟩) acc.length c2 ∧ True ∧ True := by
                obtain ⟨A', c', e', _, _, row', _⟩ := own_slice st14.2.2.2.1
                cases e'
                obtain ⟨g2, c2, e2, _⟩ := own_pos st14.2.2.2.1 hpos
                exact ⟨row', g2, c2, e2, trivial, trivial⟩
              obtain ⟨ha, _⟩ : Al = some ⟨g2, 0, none⟩ ∧ True := by cases hs2; exact ⟨rfl, trivial⟩
              have e1 : IntKind.i64.wrap ((acc.length : Int) - 1) = ((acc.length - 1 : Nat) : Int) := by
                rw [wrap_i64 (by omega) (by omega)]
                omega
              refine Exists.intro Al (Exists.intro acc.length (Exists.intro cl (And.intro (fun w'' hw => cellB (hw.blk st14.2.2.1) rfl) ?_)))
              refine And.intro (by rw [e1]; omega) (And.intro (by rw [e1]; omega) ?_)
              refine some_at ha ?_
              have hlk := lastKey_eq acc (by omega)
              obtain ⟨a', ha', hc'⟩ := row _ _ (csF_get acc (acc.length - 1) (by omega)).1
              obtain rfl : a' = ⟨g2, 0, none⟩ := by rw [ha] at ha'; cases ha'; rfl
              refine Exists.intro (lastKey acc) (And.intro (fun w'' hw => by
                rw [e1, Int.toNat_natCast, add_add_, Nat.add_zero, hlk]
                exact hw.cell hc') ?_)
              refine Exists.intro key (And.intro (fun w'' hw => cellB (hw.blk st14.2.2.2.2.1) rfl) ?_)
              refine And.intro ⟨_, cellB hh15 rfl⟩ (And.intro (fzB hh15 _) (force_ ?_))
              refine stK hh15 (show (1 : Nat) < 2 by decide) ?_
              intro w16 hb16 m16 s16
              have hst : stopR 1 (decide (acc ≠ []) && decide (lastKey acc ≥ key)) t = (t.1, if key ≤ lastKey acc then 1 else 0) := by
                have hne : acc ≠ [] := by
                  rintro rfl
                  simp at hpos
                rw [decide_eq_true hne, Bool.true_and]
                unfold stopR
                rw [if_neg (fun hc => hc h0)]
                split
                · rename_i h1
                  rw [if_pos (of_decide_eq_true h1)]
                · rename_i h1
                  rw [if_neg (fun h2 => h1 (decide_eq_true h2))]
                  exact Prod.ext rfl h0
              have r16 := st15.1.set m16 (if key ≤ lastKey acc then 1 else 0) hb16 (by split <;> simp_all)
              have st16 := stR st15 (m16.mono fun _ _ e => .inr e) r16
              exact hK (key, t.1, if key ≤ lastKey acc then 1 else 0) _ _ ⟨rfl, rfl, rfl, rfl, rfl, rfl, trivial⟩ ⟨by rw [hst], st16⟩
            · replace hk : ¬ (0 : Int) < acc.length := hk
              have hacc0 : acc = [] := List.length_eq_zero_iff.1 (by omega)
              refine And.intro ⟨_, cellB hh15 rfl⟩ (And.intro (fzB hh15 _) (force_ ?_))
              refine stK hh15 (show (1 : Nat) < 2 by decide) ?_
              intro w16 hb16 m16 s16
              have r16 := st15.1.set m16 0 hb16 rfl
              have st16 := stR st15 (m16.mono fun _ _ e => .inr e) r16
              refine hK (key, t.1, 0) _ _ ⟨rfl, rfl, rfl, rfl, rfl, rfl, trivial⟩ ⟨?_, st16⟩
              rw [hacc0, show (decide (([] : List Cs) ≠ []) && decide (lastKey [] ≥ key)) = false by simp, stopR_no]
              exact Prod.ext rfl (Prod.ext rfl h0.symm)
        · replace h9 : ¬ f = 9 := h9
          obtain rfl : srch = false := by
            rcases hf with hf | hf
            · exact hf.2
            · omega
          exact hK (low + acc.length, s') _ _ ⟨rfl, rfl, rfl, rfl, rfl, rfl, trivial⟩ ⟨rfl, st12⟩
      rintro ⟨key, t⟩ w14 fr14 ⟨hkey, st14⟩
      rw [← hkey] at hloop
      dsimp only at hloop st14
      clear hkey
      refine seq_cut (σ := Int × Nat × Int) (fun _ => [(0, .pointer (some ⟨h, 0, none⟩)), (1, .pointer (some ⟨X, 0, none⟩)), (2, .int .i64 f), (6, .int .i64 n), (7, .int .i64 (acc.length : Int)), (8, .pointer (some ⟨wl.heap.size, 0, none⟩))])
        (fun q w' => q = numR bs true 4 t ∧ St w' ⟨key, p + q.1⟩ q.2) ?_ ?_
      rotate_left
      · intro K hK
        let CC3 : World → Prop := fun w' => Mod (RS h g) w14 w' ∧ ∃ s', Cr w' h g A c bs s'
        refine draw_ (w := w14) ok (.q 0 (.q 1 (.q 2 (.q 3 (.q 4 (.q 5 (.q 6 (.q 7 (.q 8 (.q 9 (.e 10 (.q 11 (.q 12 (.e 13 .done)))))))))))))) [13] CC3 (by kernel_rfl) (by kernel_rfl) (by kernel_rfl) (by kernel_rfl) (by kernel_rfl) ⟨(New.drew _).mod, t, st14.1.new (New.drew _)⟩ ?_
        refine Exists.intro (p : Int) (And.intro (fun w'' hw => cellB (hw.1.blk st14.2.2.1 hXR) rfl) ?_)
        refine Exists.intro (some ⟨g, 0, none⟩) (And.intro (fun w'' hw => cellB hw.2.choose_spec.blk rfl) ?_)
        have st15 := stR st14 (New.drew w14).mod (st14.1.new (New.drew _))
        refine call_ (get_ok h g A c bs t true 4 w14.drew st15.1) ?_
        rintro e w16 ⟨rfl, r16, m16⟩
        refine ⟨_, rfl, ?_⟩
        refine Exists.intro CC3 (And.intro (fun _ h => h) (And.intro ⟨both (New.drew _).mod m16, _, r16⟩ ?_))
        have st16 := stR st15 m16 r16
        have hbd := numR_bound bs true 4 t (by omega)
        have hY16 := st16.2.2.2.2.1
        refine And.intro ⟨_, cellB hY16 rfl⟩ (And.intro (fzB hY16 _) (force_ ?_))
        refine stK hY16 (show (1 : Nat) < 2 by decide) ?_
        intro w17 hY17 m17 s17
        rw [wrap_i64 (show -9223372036854775808 ≤ (p : Int) + (numR bs true 4 t).1 by omega) (by omega)] at hY17
        exact hK (numR bs true 4 t) _ _ ⟨rfl, rfl, rfl, rfl, rfl, rfl, trivial⟩ ⟨rfl, stY ⟨key, p + (numR bs true 4 t).1⟩ st16 m17 hY17⟩
      rintro ⟨far2, t2⟩ w17 fr17 ⟨hq, st17⟩
      rw [← hq] at hloop
      dsimp only at hloop st17
      clear hq
      obtain ⟨r17, k17, hX17, own17, hY17, hl17⟩ := st17
      generalize hy : (⟨key, p + far2⟩ : Cs) = y at hloop hY17
      have hownb : ∀ b, some b = (Value.slice Al acc.length cl).ownBlock → w.heap.size ≤ b ∧ b < wl.heap.size := fun b e => hown b e.symm
      refine draw_ (w := w17) ok (.q 0 (.q 1 (.q 2 (.q 3 (.q 4 (.q 5 (.e 6 (.e 7 (.q 8 (.q 9 (.e 10 .done))))))))))) [10] (Mod (fun b => some b = (Value.slice Al acc.length cl).ownBlock) w17) (by kernel_rfl) (by kernel_rfl) (by kernel_rfl) (by kernel_rfl) (by kernel_rfl) (New.drew _).mod ?_
      have hXo : ¬ some X = (Value.slice Al acc.length cl).ownBlock := fun e => by have := hownb X e; omega
      have hYo : ¬ some wl.heap.size = (Value.slice Al acc.length cl).ownBlock := fun e => by have := hownb _ e; omega
      refine Exists.intro Al (Exists.intro acc.length (Exists.intro cl (And.intro (fun w'' hw => cellB (hw.blk hX17 hXo) rfl) ?_)))
      refine loadNC_row (vs := csC y) (fun j u hu w'' hw => rowB (hw.blk hY17 hYo) j u hu) rfl ?_
      have n18 := (New.drew w17).trans (New.alloc w17.drew (.cells (csC y).toArray 93))
      have row18 : Row (w17.drew.alloc (.cells (csC y).toArray 93)) (some ⟨w17.drew.heap.size, 0, none⟩) (csC y) := row_alloc w17.drew (csC y) _ _
      refine eff_build (xs := csC y) rfl rfl rfl rfl rfl rfl rfl rfl rfl ?_
      refine Exists.intro (Mod (fun b => some b = (Value.slice Al acc.length cl).ownBlock) w17) (And.intro (fun _ h => h) (And.intro n18.mod ?_))
      have hsz : w.heap.size ≤ (w17.drew.alloc (.cells (csC y).toArray 93)).heap.size := Nat.le_trans (Nat.le_trans hlw (Nat.le_of_lt hl17)) n18.size
      refine eff_app rfl rfl (fun _ _ => rfl) ?_
      refine append2_ ok rfl rfl rfl rfl (own_new n18 own17) rfl rfl row18 rfl (csC_one y) (by decide) rfl (by show (acc.length + 1) * 16 ≤ _; omega) (by omega) hsz ?_
      intro A19 c19 w19 own19 mod19 st19
      rw [← csF_snoc] at own19
      have k1719 : Mod (fun b => some b = (Value.slice Al acc.length cl).ownBlock) w17 w19 := both n18.mod mod19
      refine Exists.intro (Mod (fun b => some b = (Value.slice Al acc.length cl).ownBlock) w17) (And.intro (fun _ h => h) (And.intro k1719 ?_))
      have hX19 := k1719.blk hX17 hXo
      have hown19 := fun b (e : (Value.slice A19 (acc.length + 1) c19).ownBlock = some b) => own19.lt b e
      refine And.intro ⟨_, cellB hX19 rfl⟩ (And.intro (fzB hX19 _) (force_ ?_))
      refine stK hX19 (show (4 : Nat) < 5 by decide) ?_
      intro w20 hX20 m20 s20
      have hlen : (acc ++ [y]).length = acc.length + 1 := by simp
      have r19 : Cr w19 h g A c bs t2 := r17.modN k1719 (fun e => by have := hownb _ e; omega) (fun e => by have := hownb _ e; omega) (fun a ha hn e => by have := hlow a ha hn; have := hownb _ e; omega)
      refine ⟨m, ((A19, c19), acc ++ [y], t2), by omega, ⟨rfl, rfl, rfl, rfl, ?_, trivial⟩, hloop, by dsimp only; omega, fun _ => hn256, by dsimp only; omega, ?_, ?_, ?_, ?_⟩
      · show Value.int .i64 (IntKind.i64.wrap ((acc.length : Int) + 1)) = .int .i64 (((acc ++ [y]).length : Nat) : Int)
        rw [wrap_i64 (by omega) (by omega), hlen]
        rfl
      · exact r19.modN m20 (fun e => hXh e.symm) (fun e => hXg e.symm) hXX
      · exact Mod.trans (Mod.trans k17 k1719 fun b hb e => by have := hownb _ e; omega) m20 fun _ _ e => .inr e
      · dsimp only
        rw [hlen]
        exact hX20
      · dsimp only
        rw [hlen]
        exact own_mod m20 own19 (fun b hb e => by have := hown19 b hb; omega)
    · replace hz : ¬ s'.2 = 0 := by simpa using hz
      rw [loopC_err hz] at hloop
      rw [← hloop]
      exact ⟨rfl, _, hXl', own, rl, kl⟩
  · replace hge : ¬ (acc.length : Int) < n := hge
    obtain rfl : m = 0 := by omega
    rw [loopC] at hloop
    rw [← hloop]
    exact ⟨rfl, _, hXl', own, rl, kl⟩
end Go.Proofs.Ytcpeekeiflglpaa.Code

/- The document's answer for codes, walked: the cases of a table or a search. Printed by genref3.py. -/
import Derived.Test.YtcpeekeiflglpaaCRef2
namespace Go.Proofs.Ytcpeekeiflglpaa.Code
open Go Go.Proofs.Ytcpeekeiflglpaa Go.Proofs.Ytcpeekeiflglpaa.Eng Go.Proofs Go.Proofs.Ytcpeekeiflglpaa.Word Go.Proofs.Ytcpeekeiflglpaa.Fmt
open Go.Proofs.Ytcpeekeiflglpaa.Pool (both own_low)
set_option maxRecDepth 10000

/-- What a reading of the document's leaves. -/
def ROut (w : World) (S : Nat → Prop) (bs : List UInt8) (r : Option (Ins × List UInt8)) (e : Ending) (w' : World) : Prop := (match r with
  | none => ∃ (y : Ins) (v : Value) (z : Int), v.oneCell' = true ∧ e = .returned (.tuple #[.agg (insC y v).toArray, .int .i64 z, .bool false])
  | some q => ∃ (v : Value) (j : Nat), q.2 = bs.drop j ∧ j ≤ bs.length ∧ e = .returned (.tuple #[.agg (insC q.1 v).toArray, .int .i64 (j : Int), .bool true]) ∧ w'.ownsRow w.heap.size 93 2 v q.1.cs.length (csF q.1.cs) ∧ q.1.cs.length ≤ 256) ∧ Mod S w w'
theorem gn {bs : List UInt8} {i : Nat} (hi : i ≤ bs.length) (k : Nat) (sign : Bool) (hk : wide (k : Int) = true) :
    (∃ v, numP k sign (bs.drop i) = some (v, bs.drop (i + k)) ∧ Word.get sign bs i k = (v, 0, i + k) ∧ i + k ≤ bs.length) ∨ (numP k sign (bs.drop i) = none ∧ ∃ e, e ≠ 0 ∧ Word.get sign bs i k = (0, e, i)) := Fmt.get_num k sign hk bs i hi
theorem gb {bs : List UInt8} {i k : Nat} {sign : Bool} {v e : Int} {j : Nat} (hk : k = 1 ∨ k = 2 ∨ k = 4) (h : Word.get sign bs i k = (v, e, j)) : -2147483648 ≤ v ∧ v ≤ 4294967295 := by
  have := get_bound sign bs i k hk
  rw [h] at this
  exact this
theorem rcases_ok (g : Nat) (A : Option Addr) (c : Nat) (bs : List UInt8) (i p : Nat) (op : Int) (srch : Bool) (w : World) (hop : op = 170 ∧ srch = false ∨ op = 171 ∧ srch = true) (h : Rf w g A c bs i) (hp : p ≤ 140737488355328) :
    Calls Try.prog 93 #[.pointer (some ⟨g, 0, none⟩), .agg (insC ⟨p, op, 0, 0, []⟩ nilC).toArray] w (ROut w (fun b => b = g) bs (casesP srch p op (bs.drop i))) := by
  refine enter ok Try.func93 rfl rfl rfl ?_
  have hg := h.lt
  have hlow : bs ≠ [] → ∀ a, A = some a → a.block < w.heap.size := fun hn a ha => Word.row_low h.row a ha hn
  have hXg : ¬ w.heap.size = g := by omega
  have hZg : ¬ w.heap.size + 1 = g := by omega
  have ha0 : bs ≠ [] → ∀ a, A = some a → ¬ a.block = w.heap.size := fun hn a ha e => by have := hlow hn a ha; omega
  let St : World → Nat → Ins → Value → Prop := fun w' j y v => Rf w' g A c bs j ∧ Mod (fun b => b = g) w w' ∧ w'.heap[w.heap.size]? = some (.cells (insC y v).toArray 62 (0, 0)) ∧ w'.heap[w.heap.size + 1]? = some (.cells (insC ⟨0, 0, 0, 0, []⟩ nilC).toArray 62 (0, 0))
  have stG : ∀ {w' : World} {j : Nat} {y : Ins} {v : Value} {w'' : World} {j' : Nat}, St w' j y v → Rf w'' g A c bs j' → Mod (fun b => b = g) w' w'' → St w'' j' y v := fun q r m => ⟨r, both q.2.1 m, m.blk q.2.2.1 hXg, m.blk q.2.2.2 hZg⟩
  have stX : ∀ {w' : World} {j : Nat} {y : Ins} {v : Value} {w'' : World} (y' : Ins) (v' : Value), St w' j y v → Mod (fun b => b = w.heap.size) w' w'' → w''.heap[w.heap.size]? = some (.cells (insC y' v').toArray 62 (0, 0)) → St w'' j y' v' := fun y' v' q m hb =>
    ⟨q.1.mod m (by omega) (fun hn a ha e => by have := hlow hn a ha; omega), Mod.trans q.2.1 m fun b hb e => by omega, hb, m.blk q.2.2.2 (by omega)⟩
  have bad : ∀ (y : Ins) (v : Value) (w' w'' : World), v.oneCell' = true → casesP srch p op (bs.drop i) = none → Mod (fun b => b = g) w w' → Mod (fun b => b = w.heap.size + 1) w' w'' → ROut w (fun b => b = g) bs (casesP srch p op (bs.drop i)) (.returned (.tuple #[.agg (insC y v).toArray, .int .i64 0, .bool false])) w'' := fun y v w' w'' hv hn m m' => ⟨by rw [hn]; exact ⟨y, v, 0, hv, rfl⟩, Mod.trans m m' fun b hb e => by omega⟩
  refine seq_cut (σ := Unit) (fun _ => [(0, .pointer (some ⟨g, 0, none⟩)), (3, .pointer (some ⟨w.heap.size, 0, none⟩)), (4, .pointer (some ⟨w.heap.size + 1, 0, none⟩))]) (fun _ w' => St w' i ⟨p, op, 0, 0, []⟩ nilC ∧ w.heap.size + 2 ≤ w'.heap.size) ?_ ?_
  rotate_left
  · intro K hK
    have n1 := New.alloc w (.cells (insC ⟨p, op, 0, 0, []⟩ nilC).toArray 62)
    have n2 := New.alloc (w.alloc (.cells (insC ⟨p, op, 0, 0, []⟩ nilC).toArray 62)) (.cells (insC ⟨0, 0, 0, 0, []⟩ nilC).toArray 62)
    have s1 : (w.alloc (.cells (insC ⟨p, op, 0, 0, []⟩ nilC).toArray 62)).heap.size = w.heap.size + 1 := by simp
    have s2 : ((w.alloc (.cells (insC ⟨p, op, 0, 0, []⟩ nilC).toArray 62)).alloc (.cells (insC ⟨0, 0, 0, 0, []⟩ nilC).toArray 62)).heap.size = w.heap.size + 2 := by simp
    have hb2 := heap_alloc_new (w.alloc (.cells (insC ⟨p, op, 0, 0, []⟩ nilC).toArray 62)) (.cells (insC ⟨0, 0, 0, 0, []⟩ nilC).toArray 62)
    rw [s1] at hb2
    exact hK () _ _ ⟨rfl, rfl, (show Value.pointer (some ⟨(w.alloc (.cells (insC ⟨p, op, 0, 0, []⟩ nilC).toArray 62)).heap.size, 0, none⟩) = _ by rw [s1]), trivial⟩ ⟨⟨h.new (n1.trans n2), (n1.trans n2).mod, n2.blk (heap_alloc_new w _), hb2⟩, Nat.le_of_eq s2.symm⟩
  rintro _ w1 fr1 ⟨st1, z1⟩
  have hi := h.at_
  -- how far
  refine seq_cut (σ := (Int × Int) × Nat) (fun t => [(0, .pointer (some ⟨g, 0, none⟩)), (3, .pointer (some ⟨w.heap.size, 0, none⟩)), (4, .pointer (some ⟨w.heap.size + 1, 0, none⟩)), (7, .int .i64 t.1.1), (8, .int .i64 t.1.2)]) (fun t w' => Word.get true bs i (4 : Nat) = (t.1.1, t.1.2, t.2) ∧ St w' t.2 ⟨p, op, 0, 0, []⟩ nilC) ?_ ?_
  rotate_left
  · intro K hK
    refine call_ (Get_ok g A c bs i 4 true w1 st1.1) ?_
    rintro e w2 ⟨rfl, r2, m2⟩
    refine ⟨_, rfl, ?_⟩
    exact hK (((Word.get true bs i (4 : Nat)).1, (Word.get true bs i (4 : Nat)).2.1), (Word.get true bs i (4 : Nat)).2.2) _ _ ⟨rfl, rfl, rfl, rfl, rfl, trivial⟩ ⟨rfl, stG st1 r2 m2⟩
  rintro ⟨⟨far, er⟩, j⟩ w2 fr2 ⟨hget, st2⟩
  dsimp only at hget st2
  have hfb := gb (by omega) hget
  refine seq_cut (σ := Unit) (fun _ => [(0, .pointer (some ⟨g, 0, none⟩)), (3, .pointer (some ⟨w.heap.size, 0, none⟩)), (4, .pointer (some ⟨w.heap.size + 1, 0, none⟩)), (8, .int .i64 er)]) (fun _ w' => St w' j ⟨p, op, p + far, 0, []⟩ nilC) ?_ ?_
  rotate_left
  · intro K hK
    have hX2 := st2.2.2.1
    refine Exists.intro (p : Int) (And.intro (cellB hX2 rfl) ?_)
    refine And.intro ⟨_, cellB hX2 rfl⟩ (And.intro (fzB hX2 _) (force_ ?_))
    refine stK hX2 (show (2 : Nat) < 5 by decide) ?_
    intro w3 hX3 m3 s3
    rw [wrap_i64 (show -9223372036854775808 ≤ (p : Int) + far by omega) (by omega)] at hX3
    exact hK () _ _ ⟨rfl, rfl, rfl, rfl, trivial⟩ (stX ⟨p, op, p + far, 0, []⟩ nilC st2 m3 hX3)
  rintro _ w3 fr3 st3
  refine seq_cut (σ := Unit) (fun _ => [(0, .pointer (some ⟨g, 0, none⟩)), (3, .pointer (some ⟨w.heap.size, 0, none⟩)), (4, .pointer (some ⟨w.heap.size + 1, 0, none⟩))]) (fun _ w' => w' = w3 ∧ numP 4 true (bs.drop i) = some (far, bs.drop j) ∧ j ≤ bs.length) ?_ ?_
  rotate_left
  · intro K hK
    rcases gn hi 4 true w4 with ⟨v, h1, h2, h3⟩ | ⟨h1, e, he, h2⟩
    · rw [hget] at h2
      simp only [Prod.mk.injEq] at h2
      obtain ⟨rfl, rfl, rfl⟩ := h2
      exact hK () _ _ ⟨rfl, rfl, rfl, trivial⟩ ⟨rfl, h1, h3⟩
    · rw [hget] at h2
      simp only [Prod.mk.injEq] at h2
      refine if_n (fun _ => ?_) (fun h => absurd (show er = 0 from h) (by rw [h2.2.1]; exact he))
      refine loadN_row (vs := insC ⟨p, op, p + far, 0, []⟩ nilC) (rowB st3.2.2.1) rfl ?_
      refine And.intro rfl ?_
      refine storeN_all (vs := insC ⟨p, op, p + far, 0, []⟩ nilC) st3.2.2.2 rfl (insC_one _ rfl) ?_
      intro w99 hZ99 m99 s99
      refine loadN_row (vs := insC ⟨p, op, p + far, 0, []⟩ nilC) (rowB hZ99) rfl ?_
      exact bad _ _ w3 w99 rfl (by unfold casesP; rw [h1]; rfl) st3.2.1 m99
  rintro _ w3' fr4 ⟨rfl, hnum, hj⟩
  have hcP : casesP srch p op (bs.drop i) = (if srch = true then (numP 4 false (bs.drop j)).bind fun r2 => if r2.1 ≤ 256 then tailP srch p op far 0 r2.1 r2.2 else none
    else (numP 4 true (bs.drop j)).bind fun r2 => (numP 4 true r2.2).bind fun r3 => if 1 ≤ r3.1 - r2.1 + 1 ∧ r3.1 - r2.1 + 1 ≤ 256 then tailP srch p op far r2.1 (r3.1 - r2.1 + 1) r3.2 else none) := by
    unfold casesP
    rw [hnum]
    rfl
  clear hnum hget st2 st1
  refine seq_assign ?_
  refine seq_cut (σ := (Int × Int) × Nat) (fun t => [(0, .pointer (some ⟨g, 0, none⟩)), (3, .pointer (some ⟨w.heap.size, 0, none⟩)), (4, .pointer (some ⟨w.heap.size + 1, 0, none⟩)), (9, .int .i64 t.1.1)]) (fun t w' => St w' t.2 ⟨p, op, p + far, t.1.2, []⟩ nilC ∧ t.2 ≤ bs.length ∧ -9000000000 ≤ t.1.1 ∧ t.1.1 ≤ 9000000000 ∧ -2147483648 ≤ t.1.2 ∧ t.1.2 ≤ 4294967295 ∧ casesP srch p op (bs.drop i) = if t.1.1 ≤ 256 then tailP srch p op far t.1.2 t.1.1 (bs.drop t.2) else none) ?_ ?_
  rotate_left
  · intro K hK
    refine Exists.intro op (And.intro (cellB st3.2.2.1 rfl) ?_)
    refine if_p (fun h170 => ?_) (fun h170 => ?_)
    · replace h170 : op = 170 := h170
      obtain rfl : srch = false := by
        rcases hop with hop | hop
        · exact hop.2
        · omega
      rw [if_neg (by decide)] at hcP
      refine seq_cut (σ := (Int × Int) × Nat) (fun t => [(0, .pointer (some ⟨g, 0, none⟩)), (3, .pointer (some ⟨w.heap.size, 0, none⟩)), (4, .pointer (some ⟨w.heap.size + 1, 0, none⟩)), (10, .int .i64 t.1.1), (11, .int .i64 t.1.2)]) (fun t w' => Word.get true bs j (4 : Nat) = (t.1.1, t.1.2, t.2) ∧ St w' t.2 ⟨p, op, p + far, 0, []⟩ nilC) ?_ ?_
      rotate_left
      · intro K2 hK2
        refine call_ (Get_ok g A c bs j 4 true w3' st3.1) ?_
        rintro e w5 ⟨rfl, r5, m5⟩
        refine ⟨_, rfl, ?_⟩
        exact hK2 (((Word.get true bs j (4 : Nat)).1, (Word.get true bs j (4 : Nat)).2.1), (Word.get true bs j (4 : Nat)).2.2) _ _ ⟨rfl, rfl, rfl, rfl, rfl, trivial⟩ ⟨rfl, stG st3 r5 m5⟩
      rintro ⟨⟨low, e1⟩, j1⟩ w5 fr5 ⟨hg1, st5⟩
      dsimp only at hg1 st5
      have hb1 := gb (by omega) hg1
      refine seq_cut (σ := (Int × Int) × Nat) (fun t => [(0, .pointer (some ⟨g, 0, none⟩)), (3, .pointer (some ⟨w.heap.size, 0, none⟩)), (4, .pointer (some ⟨w.heap.size + 1, 0, none⟩)), (10, .int .i64 low), (11, .int .i64 e1), (12, .int .i64 t.1.1), (13, .int .i64 t.1.2)]) (fun t w' => Word.get true bs j1 (4 : Nat) = (t.1.1, t.1.2, t.2) ∧ St w' t.2 ⟨p, op, p + far, 0, []⟩ nilC) ?_ ?_
      rotate_left
      · intro K2 hK2
        refine call_ (Get_ok g A c bs j1 4 true w5 st5.1) ?_
        rintro e w6 ⟨rfl, r6, m6⟩
        refine ⟨_, rfl, ?_⟩
        exact hK2 (((Word.get true bs j1 (4 : Nat)).1, (Word.get true bs j1 (4 : Nat)).2.1), (Word.get true bs j1 (4 : Nat)).2.2) _ _ ⟨rfl, rfl, rfl, rfl, rfl, rfl, rfl, trivial⟩ ⟨rfl, stG st5 r6 m6⟩
      rintro ⟨⟨high, e2⟩, j2⟩ w6 fr6 ⟨hg2, st6⟩
      dsimp only at hg2 st6
      have hb2 := gb (by omega) hg2
      refine seq_cut (σ := Unit) (fun _ => [(0, .pointer (some ⟨g, 0, none⟩)), (3, .pointer (some ⟨w.heap.size, 0, none⟩)), (4, .pointer (some ⟨w.heap.size + 1, 0, none⟩)), (10, .int .i64 low), (11, .int .i64 e1), (12, .int .i64 high), (13, .int .i64 e2)]) (fun _ w' => St w' j2 ⟨p, op, p + far, low, []⟩ nilC) ?_ ?_
      rotate_left
      · intro K2 hK2
        have hX6 := st6.2.2.1
        refine And.intro ⟨_, cellB hX6 rfl⟩ (And.intro (fzB hX6 _) (force_ ?_))
        refine stK hX6 (show (3 : Nat) < 5 by decide) ?_
        intro w7 hX7 m7 s7
        exact hK2 () _ _ ⟨rfl, rfl, rfl, rfl, rfl, rfl, rfl, trivial⟩ (stX ⟨p, op, p + far, low, []⟩ nilC st6 m7 hX7)
      rintro _ w7 fr7 st7
      have e3 : IntKind.i64.wrap (high - low) = high - low := wrap_i64 (by omega) (by omega)
      have e4 : IntKind.i64.wrap (high - low + 1) = high - low + 1 := wrap_i64 (by omega) (by omega)
      refine seq_cut (σ := Unit) (fun _ => [(0, .pointer (some ⟨g, 0, none⟩)), (3, .pointer (some ⟨w.heap.size, 0, none⟩)), (4, .pointer (some ⟨w.heap.size + 1, 0, none⟩)), (9, .int .i64 (high - low + 1)), (11, .int .i64 e1), (13, .int .i64 e2)]) (fun _ w' => w' = w7) ?_ ?_
      rotate_left
      · intro K2 hK2
        refine hK2 () _ _ ⟨rfl, rfl, rfl, ?_, rfl, rfl, trivial⟩ rfl
        show Value.int .i64 (IntKind.i64.wrap (IntKind.i64.wrap (high - low) + 1)) = _
        rw [e3, e4]
      rintro _ w7' fr8 rfl
      rcases gn hj 4 true w4 with ⟨v, h1, h2, h3⟩ | ⟨h1, e, he, h2⟩
      · rw [hg1] at h2
        simp only [Prod.mk.injEq] at h2
        obtain ⟨rfl, rfl, rfl⟩ := h2
        rw [h1, Option.bind_some] at hcP
        dsimp only at hcP
        rcases gn h3 4 true w4 with ⟨v, h4, h5, h6⟩ | ⟨h4, e, he, h5⟩
        · rw [hg2] at h5
          simp only [Prod.mk.injEq] at h5
          obtain ⟨rfl, rfl, rfl⟩ := h5
          rw [h4, Option.bind_some] at hcP
          dsimp only at hcP
          refine if_p (fun hn1 => ?_) (fun hn1 => ?_)
          · replace hn1 : high - low + 1 < 1 := hn1
            rw [if_neg (by omega)] at hcP
            refine loadN_row (vs := insC ⟨p, op, p + far, low, []⟩ nilC) (rowB st7.2.2.1) rfl ?_
            refine And.intro rfl ?_
            refine storeN_all (vs := insC ⟨p, op, p + far, low, []⟩ nilC) st7.2.2.2 rfl (insC_one _ rfl) ?_
            intro w99 hZ99 m99 s99
            refine loadN_row (vs := insC ⟨p, op, p + far, low, []⟩ nilC) (rowB hZ99) rfl ?_
            exact bad _ _ w7' w99 rfl (hcP) st7.2.1 m99
          · replace hn1 : ¬ high - low + 1 < 1 := hn1
            refine hK ((high - low + 1, low), j + 4 + 4) _ _ ⟨rfl, rfl, rfl, rfl, trivial⟩ ⟨st7, h6, by dsimp only; omega, by dsimp only; omega, by dsimp only; omega, by dsimp only; omega, ?_⟩
            rw [hcP]
            by_cases h256 : high - low + 1 ≤ 256
            · rw [if_pos ⟨by omega, h256⟩, if_pos h256]
            · rw [if_neg (fun hc => h256 hc.2), if_neg h256]
        · rw [hg2] at h5
          simp only [Prod.mk.injEq] at h5
          rw [h4] at hcP
          refine if_n (fun _ => ?_) (fun h => absurd (show e2 = 0 from h) (by rw [h5.2.1]; exact he))
          refine loadN_row (vs := insC ⟨p, op, p + far, low, []⟩ nilC) (rowB st7.2.2.1) rfl ?_
          refine And.intro rfl ?_
          refine storeN_all (vs := insC ⟨p, op, p + far, low, []⟩ nilC) st7.2.2.2 rfl (insC_one _ rfl) ?_
          intro w99 hZ99 m99 s99
          refine loadN_row (vs := insC ⟨p, op, p + far, low, []⟩ nilC) (rowB hZ99) rfl ?_
          exact bad _ _ w7' w99 rfl (hcP) st7.2.1 m99
      · rw [hg1] at h2
        simp only [Prod.mk.injEq] at h2
        rw [h1] at hcP
        refine if_n (fun _ => ?_) (fun h => absurd (show e1 = 0 from h) (by rw [h2.2.1]; exact he))
        refine loadN_row (vs := insC ⟨p, op, p + far, low, []⟩ nilC) (rowB st7.2.2.1) rfl ?_
        refine And.intro rfl ?_
        refine storeN_all (vs := insC ⟨p, op, p + far, low, []⟩ nilC) st7.2.2.2 rfl (insC_one _ rfl) ?_
        intro w99 hZ99 m99 s99
        refine loadN_row (vs := insC ⟨p, op, p + far, low, []⟩ nilC) (rowB hZ99) rfl ?_
        exact bad _ _ w7' w99 rfl (hcP) st7.2.1 m99
    · replace h170 : ¬ op = 170 := h170
      obtain rfl : srch = true := by
        rcases hop with hop | hop
        · omega
        · exact hop.2
      rw [if_pos rfl] at hcP
      refine seq_cut (σ := (Int × Int) × Nat) (fun t => [(0, .pointer (some ⟨g, 0, none⟩)), (3, .pointer (some ⟨w.heap.size, 0, none⟩)), (4, .pointer (some ⟨w.heap.size + 1, 0, none⟩)), (9, .int .i64 t.1.1), (8, .int .i64 t.1.2)]) (fun t w' => Word.get false bs j (4 : Nat) = (t.1.1, t.1.2, t.2) ∧ St w' t.2 ⟨p, op, p + far, 0, []⟩ nilC) ?_ ?_
      rotate_left
      · intro K2 hK2
        refine call_ (Get_ok g A c bs j 4 false w3' st3.1) ?_
        rintro e w5 ⟨rfl, r5, m5⟩
        refine ⟨_, rfl, ?_⟩
        exact hK2 (((Word.get false bs j (4 : Nat)).1, (Word.get false bs j (4 : Nat)).2.1), (Word.get false bs j (4 : Nat)).2.2) _ _ ⟨rfl, rfl, rfl, rfl, rfl, trivial⟩ ⟨rfl, stG st3 r5 m5⟩
      rintro ⟨⟨n, e1⟩, j1⟩ w5 fr5 ⟨hg1, st5⟩
      dsimp only at hg1 st5
      have hb1 := gb (by omega) hg1
      rcases gn hj 4 false w4 with ⟨v, h1, h2, h3⟩ | ⟨h1, e, he, h2⟩
      · rw [hg1] at h2
        simp only [Prod.mk.injEq] at h2
        obtain ⟨rfl, rfl, rfl⟩ := h2
        rw [h1, Option.bind_some] at hcP
        exact hK ((n, 0), j + 4) _ _ ⟨rfl, rfl, rfl, rfl, trivial⟩ ⟨st5, h3, by dsimp only; omega, by dsimp only; omega, by dsimp only; omega, by dsimp only; omega, hcP⟩
      · rw [hg1] at h2
        simp only [Prod.mk.injEq] at h2
        rw [h1] at hcP
        refine if_n (fun _ => ?_) (fun h => absurd (show e1 = 0 from h) (by rw [h2.2.1]; exact he))
        refine loadN_row (vs := insC ⟨p, op, p + far, 0, []⟩ nilC) (rowB st5.2.2.1) rfl ?_
        refine And.intro rfl ?_
        refine storeN_all (vs := insC ⟨p, op, p + far, 0, []⟩ nilC) st5.2.2.2 rfl (insC_one _ rfl) ?_
        intro w99 hZ99 m99 s99
        refine loadN_row (vs := insC ⟨p, op, p + far, 0, []⟩ nilC) (rowB hZ99) rfl ?_
        exact bad _ _ w5 w99 rfl (hcP) st5.2.1 m99
  rintro ⟨⟨n, low⟩, j2⟩ w5 fr5 ⟨st5, hj2, hn0, hn1, hl0, hl1, hcP2⟩
  dsimp only at st5 hj2 hn0 hn1 hl0 hl1 hcP2
  clear hcP st3
  refine seq_cut (σ := Unit) (fun _ => [(0, .pointer (some ⟨g, 0, none⟩)), (3, .pointer (some ⟨w.heap.size, 0, none⟩)), (4, .pointer (some ⟨w.heap.size + 1, 0, none⟩)), (9, .int .i64 n)]) (fun _ w' => w' = w5 ∧ n ≤ 256) ?_ ?_
  rotate_left
  · intro K hK
    refine if_p (fun hgt => ?_) (fun hle => ?_)
    · replace hgt : 256 < n := hgt
      rw [if_neg (by omega)] at hcP2
      refine loadN_row (vs := insC ⟨p, op, p + far, low, []⟩ nilC) (rowB st5.2.2.1) rfl ?_
      refine And.intro rfl ?_
      refine storeN_all (vs := insC ⟨p, op, p + far, low, []⟩ nilC) st5.2.2.2 rfl (insC_one _ rfl) ?_
      intro w99 hZ99 m99 s99
      refine loadN_row (vs := insC ⟨p, op, p + far, low, []⟩ nilC) (rowB hZ99) rfl ?_
      exact bad _ _ w5 w99 rfl (hcP2) st5.2.1 m99
    · replace hle : ¬ 256 < n := hle
      exact hK () _ _ ⟨rfl, rfl, rfl, rfl, trivial⟩ ⟨rfl, by omega⟩
  rintro _ w5' fr6 ⟨rfl, h256⟩
  rw [if_pos h256, tail_rest] at hcP2
  have hsz5 : w.heap.size + 2 ≤ w5'.heap.size := (Array.getElem?_eq_some_iff.1 st5.2.2.2).1
  refine den_loop (σ := (Option Addr × Nat) × (List Cs × List (Int × Int)) × Nat) (fun t => [(0, .pointer (some ⟨g, 0, none⟩)), (3, .pointer (some ⟨w.heap.size, 0, none⟩)), (4, .pointer (some ⟨w.heap.size + 1, 0, none⟩)), (9, .int .i64 n), (14, .int .i64 (t.2.1.1.length : Int))])
    (fun m t wl => m + t.2.1.1.length = n.toNat ∧ restP srch p low m t.2.1.1 t.2.1.2 (bs.drop t.2.2) = restP srch p low n.toNat [] [] (bs.drop j2) ∧ (srch = true → t.2.1.1 = t.2.1.2.map (toCs p) ∧ riseB t.2.1.2 = true) ∧ t.2.2 ≤ bs.length ∧
      St wl t.2.2 ⟨p, op, p + far, low, t.2.1.1⟩ (.slice t.1.1 t.2.1.1.length t.1.2) ∧ wl.ownsRow (w.heap.size + 2) 93 2 (.slice t.1.1 t.2.1.1.length t.1.2) t.2.1.1.length (csF t.2.1.1) ∧ w.heap.size + 2 ≤ wl.heap.size) n.toNat ((none, 0), ([], []), j2)
    ⟨rfl, rfl, rfl, rfl, rfl, trivial⟩ ⟨by simp, rfl, fun _ => ⟨rfl, rfl⟩, hj2, st5, ⟨rfl, .inl ⟨rfl, rfl⟩⟩, hsz5⟩ ?_
  rintro m ⟨⟨Al, cl⟩, ⟨acc, acc0⟩, jl⟩ wl frl ⟨hfuel, hrest, hkeyed, hjl, stl, own, zl⟩
  dsimp only at hfuel hrest hkeyed hjl stl own
  have hown := fun b (e : (Value.slice Al acc.length cl).ownBlock = some b) => own.lt b e
  refine if_p (fun hlt => ?_) (fun hge => ?_)
  · replace hlt : (acc.length : Int) < n := hlt
    have hm1 : m - 1 + 1 = m := by omega
    rw [← hm1] at hrest
    refine skip_ (thenF_ ?_)
    refine seq_ (block_ ?_)
    refine seq_cut (σ := Unit) (fun _ => [(0, .pointer (some ⟨g, 0, none⟩)), (3, .pointer (some ⟨w.heap.size, 0, none⟩)), (4, .pointer (some ⟨w.heap.size + 1, 0, none⟩)), (9, .int .i64 n), (14, .int .i64 (acc.length : Int)), (15, .int .i64 (low + acc.length))]) (fun _ w' => w' = wl) ?_ ?_
    rotate_left
    · intro K hK
      refine Exists.intro low (And.intro (cellB stl.2.2.1 rfl) ?_)
      refine hK () _ _ ⟨rfl, rfl, rfl, rfl, rfl, ?_, trivial⟩ rfl
      show Value.int .i64 (IntKind.i64.wrap (low + (acc.length : Int))) = _
      rw [wrap_i64 (by omega) (by omega)]
    rintro _ wl' fr7 rfl
    -- the key
    refine seq_cut (σ := Int × Nat) (fun t => [(0, .pointer (some ⟨g, 0, none⟩)), (3, .pointer (some ⟨w.heap.size, 0, none⟩)), (4, .pointer (some ⟨w.heap.size + 1, 0, none⟩)), (9, .int .i64 n), (14, .int .i64 (acc.length : Int)), (15, .int .i64 t.1)])
      (fun t w' => St w' t.2 ⟨p, op, p + far, low, acc⟩ (.slice Al acc.length cl) ∧ Mod (fun b => b = g) wl' w' ∧ t.2 ≤ bs.length ∧ (srch = false → t.1 = low + acc.length ∧ t.2 = jl) ∧ (srch = true → numP 4 true (bs.drop jl) = some (t.1, bs.drop t.2) ∧ ∀ u, riseB (acc0 ++ [(t.1, u)]) = true)) ?_ ?_
    rotate_left
    · intro K hK
      refine Exists.intro op (And.intro (cellB stl.2.2.1 rfl) ?_)
      refine if_p (fun h171 => ?_) (fun h171 => ?_)
      · replace h171 : op = 171 := h171
        obtain rfl : srch = true := by
          rcases hop with hop | hop
          · omega
          · exact hop.2
        obtain ⟨hacc, hrise⟩ := hkeyed rfl
        refine seq_cut (σ := (Int × Int) × Nat) (fun t => [(0, .pointer (some ⟨g, 0, none⟩)), (3, .pointer (some ⟨w.heap.size, 0, none⟩)), (4, .pointer (some ⟨w.heap.size + 1, 0, none⟩)), (9, .int .i64 n), (14, .int .i64 (acc.length : Int)), (15, .int .i64 t.1.1), (8, .int .i64 t.1.2)]) (fun t w' => Word.get true bs jl (4 : Nat) = (t.1.1, t.1.2, t.2) ∧ St w' t.2 ⟨p, op, p + far, low, acc⟩ (.slice Al acc.length cl) ∧ Mod (fun b => b = g) wl' w') ?_ ?_
        rotate_left
        · intro K2 hK2
          refine call_ (Get_ok g A c bs jl 4 true wl' stl.1) ?_
          rintro e w7 ⟨rfl, r7, m7⟩
          refine ⟨_, rfl, ?_⟩
          exact hK2 (((Word.get true bs jl (4 : Nat)).1, (Word.get true bs jl (4 : Nat)).2.1), (Word.get true bs jl (4 : Nat)).2.2) _ _ ⟨rfl, rfl, rfl, rfl, rfl, rfl, rfl, trivial⟩ ⟨rfl, stG stl r7 m7, m7⟩
        rintro ⟨⟨key, er⟩, j3⟩ w7 fr8 ⟨hg7, st7, m7⟩
        dsimp only at hg7 st7
        rcases gn hjl 4 true w4 with ⟨v, h1, h2, h3⟩ | ⟨h1, e, he, h2⟩
        · rw [hg7] at h2
          simp only [Prod.mk.injEq] at h2
          obtain ⟨rfl, rfl, rfl⟩ := h2
          have hrl := fun u => rise_last acc0 p key u hrise
          rw [← hacc] at hrl
          have good : ¬ (0 < acc.length ∧ lastKey acc ≥ key) → ∀ u, riseB (acc0 ++ [(key, u)]) = true := fun h u => by
            rw [hrl u]
            cases acc with
            | nil => simp
            | cons x r =>
              have : ¬ lastKey (x :: r) ≥ key := fun h2 => h ⟨by simp, h2⟩
              simp [this]
          refine if_p (fun hk => ?_) (fun hk => ?_)
          · replace hk : (0 : Int) < acc.length := hk
            have hpos : 0 < acc.length := by omega
            obtain ⟨A', c', e', _, _, row, _⟩ := own_slice own
            obtain ⟨g2, c2, e2, _⟩ := own_pos own hpos
            cases e'
            cases e2
            have e1 : IntKind.i64.wrap ((acc.length : Int) - 1) = ((acc.length - 1 : Nat) : Int) := by
              rw [wrap_i64 (by omega) (by omega)]
              omega
            have hlk := lastKey_eq acc (by omega)
            obtain ⟨a', ha', hc'⟩ := row _ _ (csF_get acc (acc.length - 1) (by omega)).1
            cases ha'
            refine Exists.intro (some ⟨g2, 0, none⟩) (Exists.intro acc.length (Exists.intro cl (And.intro (cellB st7.2.2.1 rfl) ?_)))
            refine And.intro (by rw [e1]; omega) (And.intro (by rw [e1]; omega) ?_)
            refine Exists.intro (lastKey acc) (And.intro (by
              rw [e1, Int.toNat_natCast, add_add_, Nat.add_zero, hlk]
              exact m7.cell hc' (by
                rw [add_block]
                have := (hown g2 rfl).1
                show ¬ g2 = g
                omega)) ?_)
            refine if_p (fun hle => ?_) (fun hgt => ?_)
            · replace hle : key ≤ lastKey acc := hle
              have hnone : casesP true p op (bs.drop i) = none := by
                rw [hcP2, ← hrest, rest_fall p low (m - 1) acc acc0 _ h1 (fun u => by
                  rw [hrl u]
                  have hne : acc ≠ [] := fun h0 => by rw [h0] at hpos; cases hpos
                  simp [hne, hle])]
                rfl
              refine loadN_row (vs := insC ⟨p, op, p + far, low, acc⟩ (.slice (some ⟨g2, 0, none⟩) acc.length cl)) (rowB st7.2.2.1) rfl ?_
              refine And.intro rfl ?_
              refine storeN_all (vs := insC ⟨p, op, p + far, low, acc⟩ (.slice (some ⟨g2, 0, none⟩) acc.length cl)) st7.2.2.2 rfl (insC_one _ rfl) ?_
              intro w99 hZ99 m99 s99
              refine loadN_row (vs := insC ⟨p, op, p + far, low, acc⟩ (.slice (some ⟨g2, 0, none⟩) acc.length cl)) (rowB hZ99) rfl ?_
              exact bad _ _ w7 w99 rfl (hnone) st7.2.1 m99
            · replace hgt : ¬ key ≤ lastKey acc := hgt
              exact hK (key, jl + 4) _ _ ⟨rfl, rfl, rfl, rfl, rfl, rfl, trivial⟩ ⟨st7, m7, h3, fun h => by (cases h), fun _ => ⟨h1, good (fun hc => hgt hc.2)⟩⟩
          · replace hk : ¬ (0 : Int) < acc.length := hk
            exact hK (key, jl + 4) _ _ ⟨rfl, rfl, rfl, rfl, rfl, rfl, trivial⟩ ⟨st7, m7, h3, fun h => by (cases h), fun _ => ⟨h1, good (fun hc => by omega)⟩⟩
        · rw [hg7] at h2
          simp only [Prod.mk.injEq] at h2
          have hnone : casesP true p op (bs.drop i) = none := by
            rw [hcP2, ← hrest, rest_none1 p low (m - 1) acc acc0 _ h1]
            rfl
          refine if_n (fun _ => ?_) (fun h => absurd (show er = 0 from h) (by rw [h2.2.1]; exact he))
          refine loadN_row (vs := insC ⟨p, op, p + far, low, acc⟩ (.slice Al acc.length cl)) (rowB st7.2.2.1) rfl ?_
          refine And.intro rfl ?_
          refine storeN_all (vs := insC ⟨p, op, p + far, low, acc⟩ (.slice Al acc.length cl)) st7.2.2.2 rfl (insC_one _ rfl) ?_
          intro w99 hZ99 m99 s99
          refine loadN_row (vs := insC ⟨p, op, p + far, low, acc⟩ (.slice Al acc.length cl)) (rowB hZ99) rfl ?_
          exact bad _ _ w7 w99 rfl (hnone) st7.2.1 m99
      · replace h171 : ¬ op = 171 := h171
        obtain rfl : srch = false := by
          rcases hop with hop | hop
          · exact hop.2
          · omega
        exact hK (low + acc.length, jl) _ _ ⟨rfl, rfl, rfl, rfl, rfl, rfl, trivial⟩ ⟨stl, Mod.refl _ _, hjl, fun _ => ⟨rfl, rfl⟩, fun h => by (cases h)⟩
    rintro ⟨key, j3⟩ w7 fr8 ⟨st7, m7, hj3, hkf, hkt⟩
    dsimp only at st7 hj3 hkf hkt
    -- where to
    refine seq_cut (σ := (Int × Int) × Nat) (fun t => [(0, .pointer (some ⟨g, 0, none⟩)), (3, .pointer (some ⟨w.heap.size, 0, none⟩)), (4, .pointer (some ⟨w.heap.size + 1, 0, none⟩)), (9, .int .i64 n), (14, .int .i64 (acc.length : Int)), (15, .int .i64 key), (16, .int .i64 t.1.1), (17, .int .i64 t.1.2)]) (fun t w' => Word.get true bs j3 (4 : Nat) = (t.1.1, t.1.2, t.2) ∧ St w' t.2 ⟨p, op, p + far, low, acc⟩ (.slice Al acc.length cl) ∧ Mod (fun b => b = g) wl' w') ?_ ?_
    rotate_left
    · intro K2 hK2
      refine call_ (Get_ok g A c bs j3 4 true w7 st7.1) ?_
      rintro e w8 ⟨rfl, r8, m8⟩
      refine ⟨_, rfl, ?_⟩
      exact hK2 (((Word.get true bs j3 (4 : Nat)).1, (Word.get true bs j3 (4 : Nat)).2.1), (Word.get true bs j3 (4 : Nat)).2.2) _ _ ⟨rfl, rfl, rfl, rfl, rfl, rfl, rfl, rfl, trivial⟩ ⟨rfl, stG st7 r8 m8, both m7 m8⟩
    rintro ⟨⟨to, er⟩, j4⟩ w8 fr9 ⟨hg8, st8, m8⟩
    dsimp only at hg8 st8
    have hb8 := gb (by omega) hg8
    refine seq_cut (σ := Unit) (fun _ => [(0, .pointer (some ⟨g, 0, none⟩)), (3, .pointer (some ⟨w.heap.size, 0, none⟩)), (4, .pointer (some ⟨w.heap.size + 1, 0, none⟩)), (9, .int .i64 n), (14, .int .i64 (acc.length : Int)), (15, .int .i64 key), (16, .int .i64 to)]) (fun _ w' => w' = w8 ∧ j4 ≤ bs.length ∧ restP srch p low (m - 1) (acc ++ [⟨key, p + to⟩]) (acc0 ++ [(key, to)]) (bs.drop j4) = restP srch p low n.toNat [] [] (bs.drop j2)) ?_ ?_
    rotate_left
    · intro K hK
      rcases gn hj3 4 true w4 with ⟨v, h1, h2, h3⟩ | ⟨h1, e, he, h2⟩
      · rw [hg8] at h2
        simp only [Prod.mk.injEq] at h2
        obtain ⟨rfl, rfl, rfl⟩ := h2
        refine hK () _ _ ⟨rfl, rfl, rfl, rfl, rfl, rfl, rfl, trivial⟩ ⟨rfl, h3, ?_⟩
        rw [← hrest]
        cases srch with
        | true => rw [rest_key p low (m - 1) acc acc0 _ (hkt rfl).1 h1]
        | false =>
          obtain ⟨hk1, hk2⟩ := hkf rfl
          subst hk1
          subst hk2
          rw [rest_count, h1, Option.bind_some]
          rfl
      · rw [hg8] at h2
        simp only [Prod.mk.injEq] at h2
        have hnone : casesP srch p op (bs.drop i) = none := by
          rw [hcP2, ← hrest]
          cases srch with
          | true =>
            rw [rest_none2 p low (m - 1) acc acc0 _ (hkt rfl).1 h1]
            rfl
          | false =>
            obtain ⟨hk1, hk2⟩ := hkf rfl
            rw [hk2] at h1
            rw [rest_count, h1]
            rfl
        refine if_n (fun _ => ?_) (fun h => absurd (show er = 0 from h) (by rw [h2.2.1]; exact he))
        refine loadN_row (vs := insC ⟨p, op, p + far, low, acc⟩ (.slice Al acc.length cl)) (rowB st8.2.2.1) rfl ?_
        refine And.intro rfl ?_
        refine storeN_all (vs := insC ⟨p, op, p + far, low, acc⟩ (.slice Al acc.length cl)) st8.2.2.2 rfl (insC_one _ rfl) ?_
        intro w99 hZ99 m99 s99
        refine loadN_row (vs := insC ⟨p, op, p + far, low, acc⟩ (.slice Al acc.length cl)) (rowB hZ99) rfl ?_
        exact bad _ _ w8 w99 rfl (hnone) st8.2.1 m99
    rintro _ w8' fr10 ⟨rfl, hj4, hrest2⟩
    have own8 := own_mod m8 own (fun b hb e => by have := (hown b hb).1; omega)
    refine Exists.intro Al (Exists.intro acc.length (Exists.intro cl (And.intro (cellB st8.2.2.1 rfl) ?_)))
    refine Exists.intro (p : Int) (And.intro (cellB st8.2.2.1 rfl) ?_)
    have ew : IntKind.i64.wrap ((p : Int) + to) = p + to := wrap_i64 (by omega) (by omega)
    have n9 := New.alloc w8' (.cells (csC ⟨key, IntKind.i64.wrap ((p : Int) + to)⟩).toArray 93)
    have hz9 : w.heap.size + 2 ≤ (w8'.alloc (.cells (csC ⟨key, IntKind.i64.wrap ((p : Int) + to)⟩).toArray 93)).heap.size := Nat.le_trans (Nat.le_trans zl m8.size) n9.size
    refine append2_ ok rfl rfl rfl rfl (own_new n9 own8) rfl rfl (row_alloc w8' (csC ⟨key, IntKind.i64.wrap ((p : Int) + to)⟩) _ _) rfl (csC_one _) (by decide) rfl (by show (acc.length + 1) * 16 ≤ _; omega) (by omega) hz9 ?_
    intro A10 c10 w10 own10 mod10 st10
    rw [ew, ← csF_snoc] at own10
    have k10 : Mod (fun b => some b = (Value.slice Al acc.length cl).ownBlock) w8' w10 := both n9.mod mod10
    have hnb : ∀ b, some b = (Value.slice Al acc.length cl).ownBlock → w.heap.size + 2 ≤ b := fun b e => (hown b e.symm).1
    have hX10 := k10.blk st8.2.2.1 (fun e => by have := hnb _ e; omega)
    have hZ10 := k10.blk st8.2.2.2 (fun e => by have := hnb _ e; omega)
    have r10 := st8.1.mod k10 (fun e => by have := hnb _ e; omega) (fun hn a ha e => by have := hlow hn a ha; have := hnb _ e; omega)
    have hown10 := fun b (e : (Value.slice A10 (acc.length + 1) c10).ownBlock = some b) => own10.lt b e
    refine And.intro ⟨_, cellB hX10 rfl⟩ (And.intro (fzB hX10 _) (force_ ?_))
    refine stK hX10 (show (4 : Nat) < 5 by decide) ?_
    intro w11 hX11 m11 s11
    have hl : (acc ++ [(⟨key, p + to⟩ : Cs)]).length = acc.length + 1 := by simp
    have k10s := k10.size
    have m8s := m8.size
    refine ⟨m - 1, ((A10, c10), (acc ++ [⟨key, p + to⟩], acc0 ++ [(key, to)]), j4), by omega, ⟨rfl, rfl, rfl, rfl, ?_, trivial⟩, by dsimp only; omega, hrest2, fun hs => ?_, hj4, ⟨?_, ?_, ?_, ?_⟩, ?_, ?_⟩
    · show Value.int .i64 (IntKind.i64.wrap ((acc.length : Int) + 1)) = .int .i64 (((acc ++ [(⟨key, p + to⟩ : Cs)]).length : Nat) : Int)
      rw [wrap_i64 (by omega) (by omega), hl]
      rfl
    · obtain ⟨h1, h2⟩ := hkeyed hs
      refine ⟨?_, (hkt hs).2 to⟩
      dsimp only
      rw [List.map_append, h1]
      rfl
    · exact r10.mod m11 (by omega) (fun hn a ha e => by have := hlow hn a ha; omega)
    · exact Mod.trans (Mod.trans st8.2.1 k10 fun b hb e => by have := hnb _ e; omega) m11 fun b hb e => by omega
    · dsimp only
      rw [hl]
      exact hX11
    · exact m11.blk hZ10 (by omega)
    · dsimp only
      rw [hl]
      exact own_mod m11 own10 (fun b hb e => by have := (hown10 b hb).1; omega)
    · omega
  · replace hge : ¬ (acc.length : Int) < n := hge
    obtain rfl : m = 0 := by omega
    rw [rest_done srch p low acc acc0 _ hkeyed] at hrest
    have hfin : casesP srch p op (bs.drop i) = some (⟨p, op, p + far, low, acc⟩, bs.drop jl) := by
      rw [hcP2, ← hrest]
      rfl
    rw [hfin]
    have hv1 : (Value.slice Al acc.length cl).oneCell' = true := rfl
    refine draw_ (w := wl) ok (.q 0 (.q 1 (.q 2 (.q 3 (.q 4 (.e 5 (.q 6 (.q 7 .done)))))))) [7] (Mod (fun b => b = w.heap.size + 1) wl) (by kernel_rfl) (by kernel_rfl) (by kernel_rfl) (by kernel_rfl) (by kernel_rfl) (New.drew _).mod ?_
    refine loadNC_row (vs := insC ⟨p, op, p + far, low, acc⟩ (.slice Al acc.length cl)) (fun k u hu w'' hw => rowB (hw.blk stl.2.2.1 (by omega)) k u hu) rfl ?_
    refine Exists.intro (jl : Int) (And.intro (fun w'' hw => cellB (hw.blk stl.1.blk (fun e => hZg e.symm)) rfl) ?_)
    refine And.intro rfl ?_
    have nd := New.drew wl
    refine storeN_all (vs := insC ⟨p, op, p + far, low, acc⟩ (.slice Al acc.length cl)) (nd.blk stl.2.2.2) rfl (insC_one _ hv1) ?_
    intro w8 hZ8 m8 s8
    have k8 : Mod (fun b => b = w.heap.size + 1) wl w8 := both nd.mod m8
    refine Exists.intro (Mod (fun b => b = w.heap.size + 1) wl) (And.intro (fun _ h => h) (And.intro k8 ?_))
    refine loadN_row (vs := insC ⟨p, op, p + far, low, acc⟩ (.slice Al acc.length cl)) (rowB hZ8) rfl ?_
    refine ⟨⟨.slice Al acc.length cl, jl, rfl, hjl, rfl, Pool.own_low (own_mod k8 own (fun b hb e => by have := (hown b hb).1; omega)) (by omega), by dsimp only; omega⟩, Mod.trans stl.2.1 k8 fun b hb e => by omega⟩
end Go.Proofs.Ytcpeekeiflglpaa.Code

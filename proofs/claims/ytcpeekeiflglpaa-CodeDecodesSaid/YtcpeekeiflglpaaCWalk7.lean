/- The package code, walked: a code of any length is read. -/
import Derived.Test.YtcpeekeiflglpaaCWalk6
namespace Go.Proofs.Ytcpeekeiflglpaa.Code
open Go Go.Proofs.Ytcpeekeiflglpaa Go.Proofs.Ytcpeekeiflglpaa.Eng Go.Proofs Go.Proofs.Ytcpeekeiflglpaa.Word
open Go.Proofs.Ytcpeekeiflglpaa.Pool (numR numR_err rd_modN rd_low RS both own_low Says)
set_option maxRecDepth 10000

theorem one_adv (bs : List UInt8) (s : Nat × Int) (hs : s.2 = 0) (hi : s.1 ≤ bs.length) (h : (oneR bs s).2.2 = 0) : s.1 + 1 ≤ (oneR bs s).2.1 := by
  have e : s = (s.1, 0) := Prod.ext rfl hs
  rw [e] at h ⊢
  rcases says_one bs s.1 hi with ⟨v, j, e1, e2, e3, e4⟩ | ⟨e1, e2, e3⟩
  · rw [e2]
    exact (one_step e4 e1).1
  · exact absurd h e2
theorem one_mono (bs : List UInt8) (s : Nat × Int) (hs : s.2 = 0) (hi : s.1 ≤ bs.length) : s.1 ≤ (oneR bs s).2.1 := by
  have e : s = (s.1, 0) := Prod.ext rfl hs
  rw [e]
  rcases says_one bs s.1 hi with ⟨v, j, e1, e2, e3, e4⟩ | ⟨e1, e2, e3⟩
  · rw [e2]
    exact e3
  · exact e3.1
theorem loopC_len (bs : List UInt8) (srch : Bool) (p low : Int) : ∀ (f : Nat) (acc : List Cs) (s : Nat × Int), (loopC bs srch p low f acc s).1.length ≤ acc.length + f
  | 0, acc, s => Nat.le_refl _
  | f + 1, acc, s => by
    rw [loopC]
    split
    · have := loopC_len bs srch p low f (acc ++ [(caseR bs srch p low acc s).1]) (caseR bs srch p low acc s).2
      simp at this ⊢
      omega
    · simp only
      omega
theorem casesR_len (bs : List UInt8) (srch : Bool) (p : Nat) (op : Int) (s : Nat × Int) : (casesR bs srch p op s).1.cs.length ≤ 256 := by
  unfold casesR casesEnd
  generalize (numR bs true 4 (padR bs (padOf p) s)).2 = s1
  generalize (numR bs true 4 (padR bs (padOf p) s)).1 = far
  dsimp only
  by_cases h0 : (headR bs srch s1).2.2 = 0
  · have h256 : (headR bs srch s1).1.2 ≤ 256 := by
      rw [headR_of] at h0 ⊢
      split
      · rename_i hs
        rw [if_pos hs] at h0
        dsimp only at h0 ⊢
        unfold stopR at h0
        split at h0
        · rename_i h1; exact absurd h0 h1
        · split at h0
          · simp at h0
          · rename_i h1; exact Int.not_lt.1 (fun h2 => h1 (decide_eq_true h2))
      · rename_i hs
        rw [if_neg hs] at h0
        dsimp only at h0 ⊢
        generalize stopR 1 (decide ((numR bs true 4 (numR bs true 4 s1).2).1 - (numR bs true 4 s1).1 + 1 < 1)) (numR bs true 4 (numR bs true 4 s1).2).2 = s2 at h0
        unfold stopR at h0
        split at h0
        · rename_i h1; exact absurd h0 h1
        · split at h0
          · simp at h0
          · rename_i h1; exact Int.not_lt.1 (fun h2 => h1 (decide_eq_true h2))
    have := loopC_len bs srch p (headR bs srch s1).1.1 (headR bs srch s1).1.2.toNat [] (headR bs srch s1).2
    simp only [List.length_nil] at this
    omega
  · rw [loopC_err h0]
    simp
theorem oneR_len (bs : List UInt8) (s : Nat × Int) : (oneR bs s).1.cs.length ≤ 256 := by
  unfold oneR opR
  split <;> first
    | exact casesR_len _ _ _ _ _
    | simp

/-- What a reading of a code leaves. -/
def DecOut (w : World) (r : Option (List Ins)) (e : Ending) (w' : World) : Prop := (match r with
  | none => e = .returned (.tuple #[.slice none 0 0, .int .i64 90])
  | some l => ∃ ts A c, ts.map (·.1) = l ∧ e = .returned (.tuple #[.slice A ts.length c, .int .i64 0]) ∧ Ct w' A ts ∧ ts.length ≤ c ∧ c ≤ 9223372036854775807) ∧ New w w'
theorem decode_ok (A : Option Addr) (n c : Nat) (bs : List UInt8) (w : World) (hn : n = bs.length) (hr : Row w A (bvs bs)) (hc : bs.length ≤ c) (ht : c ≤ 9223372036854775807) (hm : bs.length ≤ 1000000000) :
    Calls Try.prog 49 #[.slice A n c] w (DecOut w (dec bs)) := by
  subst hn
  refine enter ok Try.func49 rfl rfl rfl ?_
  have hlow : ∀ a, A = some a → bs ≠ [] → a.block < w.heap.size := Word.row_low hr
  refine seq_cut (σ := Unit) (fun _ => [(0, .slice A bs.length c)]) (fun _ w' => w' = w) ?_ ?_
  rotate_left
  · intro K hK
    exact hK () _ _ ⟨rfl, trivial⟩ rfl
  rintro _ _ fr0 rfl
  rename_i w
  -- the reader
  refine seq_cut (σ := Unit) (fun _ => [(4, .pointer (some ⟨w.heap.size + 1, 0, none⟩))]) (fun _ w' => Cr w' (w.heap.size + 1) w.heap.size A c bs (0, 0) ∧ New w w' ∧ w.heap.size + 2 ≤ w'.heap.size) ?_ ?_
  rotate_left
  · intro K hK
    refine call_ (Read_okN A c bs w hr hc ht) ?_
    rintro e w1 ⟨rfl, rd1, n1, s1⟩
    refine ⟨_, rfl, ?_⟩
    have n2 := New.alloc w1 (.cells #[.pointer (some ⟨w.heap.size, 0, none⟩), .bool (!decide ((0 : Int) = 0))] 114)
    have hb2 := heap_alloc_new w1 (.cells #[.pointer (some ⟨w.heap.size, 0, none⟩), .bool (!decide ((0 : Int) = 0))] 114)
    rw [s1] at hb2
    have z2 : (w1.alloc (.cells #[.pointer (some ⟨w.heap.size, 0, none⟩), .bool (!decide ((0 : Int) = 0))] 114)).heap.size = w.heap.size + 2 := by simp [s1]
    exact hK () _ _ ⟨(show Value.pointer (some ⟨w1.heap.size, 0, none⟩) = _ by rw [s1]), trivial⟩ ⟨⟨hb2, rd1.new n2, by omega, fun a ha hb => by have := hlow a ha hb; omega⟩, n1.trans n2, Nat.le_of_eq z2.symm⟩
  rintro _ w1 fr1 ⟨r1, n1, z1⟩
  obtain ⟨h, hh⟩ : ∃ h, h = w.heap.size + 1 := ⟨_, rfl⟩
  obtain ⟨g, hg⟩ : ∃ g, g = w.heap.size := ⟨_, rfl⟩
  rw [← hh] at r1 ⊢
  rw [← hg] at r1
  refine seq_assign ?_
  -- one behind the other
  refine seq_cut (σ := (Option Addr × Nat) × List It × Nat × Int) (fun t => [(4, .pointer (some ⟨h, 0, none⟩)), (5, .slice t.1.1 t.2.1.length t.1.2)])
    (fun t w' => codeR bs bs.length [] (0, 0) = (t.2.1.map (·.1), t.2.2) ∧ Cr w' h g A c bs t.2.2 ∧ New w w' ∧ Ct w' t.1.1 t.2.1 ∧ (∀ a, t.1.1 = some a → t.2.1 ≠ [] → ¬ a.block = h) ∧ (∀ x ∈ t.2.1, Off (fun b => b = h) x.2) ∧ t.2.1.length ≤ 1000000001 ∧ t.2.1.length ≤ t.1.2 ∧ t.1.2 ≤ 9223372036854775807) ?_ ?_
  rotate_left
  · intro K hK
    refine den_loop (σ := (Option Addr × Nat) × List It × Nat × Int) (fun t => [(4, .pointer (some ⟨h, 0, none⟩)), (5, .slice t.1.1 t.2.1.length t.1.2)])
      (fun m t wl => codeR bs m (t.2.1.map (·.1)) t.2.2 = codeR bs bs.length [] (0, 0) ∧ (t.2.2.2 = 0 → bs.length ≤ m + t.2.2.1) ∧ (t.2.2.2 = 0 → t.2.1.length ≤ t.2.2.1) ∧ t.2.1.length ≤ t.2.2.1 + 1 ∧ Cr wl h g A c bs t.2.2 ∧ New w wl ∧ w.heap.size + 2 ≤ wl.heap.size ∧ wl.ownsRow (w.heap.size + 2) 62 5 (.slice t.1.1 t.2.1.length t.1.2) t.2.1.length (itF t.2.1) ∧
        (∀ x ∈ t.2.1, CsV wl x.2 x.1.cs ∧ Off (fun b => b < w.heap.size + 2 ∨ some b = (Value.slice t.1.1 t.2.1.length t.1.2).ownBlock) x.2)) bs.length ((none, 0), [], (0, 0))
      ⟨rfl, rfl, trivial⟩ ⟨rfl, fun _ => by simp, fun _ => by simp, by simp, r1, n1, z1, ⟨rfl, .inl ⟨rfl, rfl⟩⟩, fun _ h => by cases h⟩ ?_
    rintro m ⟨⟨Al, cl⟩, ts, s⟩ wl frl ⟨hcode, hfuel, hlen, hlen2, rl, kl, zl, own, hts⟩
    dsimp only at hcode hfuel hlen hlen2 rl own hts
    have hat := rl.rd.at_
    have hown := fun b (e : (Value.slice Al ts.length cl).ownBlock = some b) => own.lt b e
    have stop : ∀ w', New wl w' → ¬ (s.1 < bs.length ∧ s.2 = 0) → codeR bs bs.length [] (0, 0) = (ts.map (·.1), s) ∧ Cr w' h g A c bs s ∧ New w w' ∧ Ct w' Al ts ∧ (∀ a, Al = some a → ts ≠ [] → ¬ a.block = h) ∧ (∀ x ∈ ts, Off (fun b => b = h) x.2) ∧ ts.length ≤ 1000000001 ∧ ts.length ≤ cl ∧ cl ≤ 9223372036854775807 := fun w' n' hs => by
      rw [← hcode, codeR_stop hs]
      obtain ⟨A', c', e', h5, h6, row, ho⟩ := own_slice own
      cases e'
      refine ⟨rfl, rl.new n', kl.trans n', ⟨row.new n', fun x hx => (hts x hx).1.new n'⟩, fun a ha _ e => ?_, fun x hx a n c e hn hb => (hts x hx).2 a n c e hn (.inl (by omega)), by omega, h5, h6⟩
      have := (ho a ha).1
      omega
    refine Exists.intro (some ⟨g, 0, none⟩) (And.intro (cellB rl.blk rfl) ?_)
    refine call_ (Left_ok g A c bs s.1 wl rl.rd) ?_
    rintro e w3 ⟨rfl, n3⟩
    refine ⟨_, rfl, ?_⟩
    have hb3 := n3.blk rl.blk
    refine if_p (fun hlt => ?_) (fun hge => ?_)
    · replace hlt : (0 : Int) < (bs.length : Int) - s.1 := hlt
      refine Exists.intro (!decide (s.2 = 0)) (And.intro (cellB hb3 rfl) ?_)
      refine if_ (fun hz => ?_) (fun hz => ?_)
      · replace hz : s.2 = 0 := by simpa using hz
        have hf := hfuel hz
        obtain ⟨m, rfl⟩ : ∃ m', m = m' + 1 := ⟨m - 1, by omega⟩
        rw [codeR, if_pos ⟨by omega, hz⟩] at hcode
        refine call_ (one_ok h g A c bs s w3 (rl.new n3) (by omega)) ?_
        rintro e w5 ⟨v, rfl, own5, r5, m5⟩
        refine ⟨_, rfl, ?_⟩
        have hadv := one_adv bs s hz hat
        have hmono := one_mono bs s hz hat
        have hl5 := oneR_len bs s
        generalize oneR bs s = q at hcode own5 r5 hadv hmono hl5
        obtain ⟨x, s5⟩ := q
        dsimp only at hcode own5 r5 hadv hmono hl5
        have cs5 := csV_own own5 (by omega)
        have n3s := n3.size
        have m5s := m5.size
        have hnR : ∀ b, w.heap.size + 2 ≤ b → ¬ RS h g b := fun b hb e => by rcases e with e | e <;> omega
        have k5 : New w w5 := Mod.trans (kl.trans n3) m5 fun b hb e => by rcases e with e | e <;> omega
        have own5' := own_mod m5 (own_new n3 own) (fun b hb => hnR b (hown b hb).1)
        have n6 := New.alloc w5 (.cells (insC x v).toArray 62)
        have hbig := hlen hz
        refine append2_ ok rfl rfl rfl rfl (own_new n6 own5') rfl rfl (row_alloc w5 (insC x v) _ _) rfl (insC_one x cs5.one) (by decide) rfl (by show (ts.length + 1) * 56 ≤ _; omega) (by omega) (Nat.le_trans (by omega) n6.size) ?_
        intro A7 c7 w7 own7 mod7 st7
        rw [← itF_snoc (t := (x, v))] at own7
        have k57 : Mod (fun b => some b = (Value.slice Al ts.length cl).ownBlock) w5 w7 := Mod.trans n6.mod mod7 fun _ _ e => e
        have hownb : ∀ b, some b = (Value.slice Al ts.length cl).ownBlock → w.heap.size + 2 ≤ b ∧ b < wl.heap.size := fun b e => hown b e.symm
        have k7 : New w w7 := Mod.trans k5 k57 fun b hb e => by have := hownb b e; omega
        have k57s := k57.size
        have hl : (ts ++ [(x, v)]).length = ts.length + 1 := by simp
        have hA : ∀ a, A = some a → bs ≠ [] → ¬ some a.block = (Value.slice Al ts.length cl).ownBlock := fun a ha hn e => by have := hlow a ha hn; have := hownb _ e; omega
        have r7 := r5.modN k57 (fun e => by have := hownb _ e; omega) (fun e => by have := hownb _ e; omega) hA
        have off5 : Off (fun b => some b = (Value.slice Al ts.length cl).ownBlock) v := off_own own5 (fun b hb _ e => by have := hownb _ e; omega)
        refine ⟨m, ((A7, c7), ts ++ [(x, v)], s5), by omega, ⟨rfl, (show Value.slice A7 (ts.length + 1) c7 = .slice A7 (ts ++ [(x, v)]).length c7 by rw [hl]), trivial⟩, ?_, fun h => ?_, fun h => ?_, ?_, r7, k7, by omega, ?_, ?_⟩
        · dsimp only
          rw [List.map_append]
          exact hcode
        · have := hadv h
          dsimp only at h ⊢
          omega
        · have := hadv h
          dsimp only at h ⊢
          omega
        · dsimp only
          omega
        · dsimp only
          rw [hl]
          exact own7
        · intro y hy
          dsimp only
          rw [hl]
          have st : ∀ b, some b = (Value.slice A7 (ts.length + 1) c7).ownBlock → some b = (Value.slice Al ts.length cl).ownBlock ∨ w5.heap.size ≤ b := fun b e => by
            rcases st7 b e.symm with e | e
            · exact .inl e.symm
            · exact .inr (Nat.le_trans n6.size e)
          rcases List.mem_append.1 hy with hy | hy
          · obtain ⟨c1, o1⟩ := hts y hy
            have o5 : Off (RS h g) y.2 := fun a n c e hn hb => o1 a n c e hn (.inl (by rcases hb with hb | hb <;> omega))
            refine ⟨((c1.new n3).modN m5 o5).modN k57 (fun a n c e hn hb => o1 a n c e hn (.inr hb)), fun a n c e hn hb => ?_⟩
            rcases hb with hb | hb
            · exact o1 a n c e hn (.inl hb)
            · rcases st _ hb with hb | hb
              · exact o1 a n c e hn (.inr hb)
              · have := c1.low e hn
                omega
          · rw [List.mem_singleton.1 hy]
            refine ⟨cs5.modN k57 off5, fun a n c e hn hb => ?_⟩
            rcases hb with hb | hb
            · exact off_own own5 (S := fun b => b < w.heap.size + 2) (fun b hb _ e => by omega) a n c e hn hb
            · rcases st _ hb with hb | hb
              · exact off5 a n c e hn hb
              · have := cs5.low e hn
                omega
      · replace hz : ¬ s.2 = 0 := by simpa using hz
        exact hK ((Al, cl), ts, s) _ _ ⟨rfl, rfl, trivial⟩ (stop w3 n3 (fun h => hz h.2))
    · replace hge : ¬ (0 : Int) < (bs.length : Int) - s.1 := hge
      exact hK ((Al, cl), ts, s) _ _ ⟨rfl, rfl, trivial⟩ (stop w3 n3 (fun h => by have := h.1; omega))
  rintro ⟨⟨Al, cl⟩, ts, s⟩ w2 fr2 ⟨hcode, r2, n2, ct2, hAl, hoff, hlen, hcap, htop⟩
  dsimp only at hcode r2 ct2 hAl hoff hlen hcap htop
  have hdec := dec_says bs
  rw [hcode] at hdec
  dsimp only at hdec
  clear hcode
  -- where they begin
  have hh2 : h < w2.heap.size := r2.lt.1
  refine seq_cut (σ := Nat × Nat) (fun t => [(4, .pointer (some ⟨h, 0, none⟩)), (5, .slice Al ts.length cl), (6, .pointer (some ⟨t.1, 0, none⟩))])
    (fun t w' => New w2 w' ∧ MapF intK w' t.2 (mk fun _ => false) ∧ w'.heap[t.1]? = some (.cells #[.map (some t.2)] 116 (0, 0)) ∧ w2.heap.size ≤ t.2 ∧ w2.heap.size ≤ t.1 ∧ t.1 ≠ t.2) ?_ ?_
  rotate_left
  · intro K hK
    refine op_ rfl (op_makeMap rfl (makeMap_ rfl ?_))
    have n3 := New.alloc w2 (.map #[] 0)
    have mapN := mapF_new intK w2
    have s3 : (w2.alloc (.map #[] 0)).heap.size = w2.heap.size + 1 := by simp
    have n3' := New.alloc (w2.alloc (.map #[] 0)) (.cells #[.map none] 116)
    refine stB0 (v := .map (some w2.heap.size)) (heap_alloc_new (w2.alloc (.map #[] 0)) (.cells #[.map none] 116)) (show (0 : Nat) < 1 by decide) ?_
    intro w4 hb4 m4 s4
    have n4 : New (w2.alloc (.map #[] 0)) w4 := Mod.trans n3' m4 fun b hb e => by omega
    refine hK ((w2.alloc (.map #[] 0)).heap.size, w2.heap.size) _ _ ⟨rfl, rfl, rfl, trivial⟩ ⟨n3.trans n4, ?_, hb4, Nat.le_refl _, by dsimp only; omega, by dsimp only; omega⟩
    have e : mk (fun _ => false) = fun _ => none := by
      funext v
      unfold mk
      split <;> rfl
    rw [e]
    exact mapN.new n4
  rintro ⟨M, r⟩ w3 fr3 ⟨n3, map3, hM3, hr3, hM3', hMr⟩
  dsimp only at map3 hM3 hr3 hM3' hMr
  refine seq_cut (σ := Unit) (fun t => [(4, .pointer (some ⟨h, 0, none⟩)), (5, .slice Al ts.length cl), (6, .pointer (some ⟨M, 0, none⟩))])
    (fun t w' => New w2 w' ∧ MapF intK w' r (mk fun z => ts.any fun y => decide (y.1.p = z)) ∧ w'.heap[M]? = some (.cells #[.map (some r)] 116 (0, 0))) ?_ ?_
  rotate_left
  · intro K hK
    refine den_loop (σ := Nat) (fun i => [(4, .pointer (some ⟨h, 0, none⟩)), (5, .slice Al ts.length cl), (6, .pointer (some ⟨M, 0, none⟩)), (34, .slice Al ts.length cl), (35, .int .i64 (ts.length : Int)), (36, .int .i64 (i : Int))])
      (fun m i wl => m + i = ts.length ∧ New w2 wl ∧ MapF intK wl r (mk fun z => (ts.take i).any fun y => decide (y.1.p = z)) ∧ wl.heap[M]? = some (.cells #[.map (some r)] 116 (0, 0))) ts.length 0
      ⟨rfl, rfl, rfl, rfl, rfl, rfl, trivial⟩ ⟨rfl, n3, by simpa using map3, hM3⟩ ?_
    rintro m i wl frl ⟨hfuel, kl, mapl, hMl⟩
    refine if_p (fun hlt => ?_) (fun hge => ?_)
    · replace hlt : (i : Int) < (ts.length : Int) := hlt
      have hi : i < ts.length := by omega
      obtain ⟨m, rfl⟩ : ∃ m', m = m' + 1 := ⟨m - 1, by omega⟩
      have inc : Value.int .i64 (IntKind.i64.wrap ((i : Int) + 1)) = .int .i64 ((i + 1 : Nat) : Int) := by
        rw [wrap_i64 (by omega) (by omega)]
        rfl
      have ctl := ct2.new kl
      obtain ⟨aI, hAe, hcell⟩ := itF_row ctl.row hi
      refine And.intro (by omega) (And.intro hlt ?_)
      refine some_at hAe ?_
      refine loadN_row (vs := insC ts[i].1 ts[i].2) (fun k u hu => by rw [Int.toNat_natCast]; exact hcell k u hu) rfl ?_
      refine And.intro rfl ?_
      refine storeNew (vs := insC ts[i].1 ts[i].2) (arr := (insC ⟨0, 0, 0, 0, []⟩ nilC).toArray) rfl (insC_one _ (ctl.cs _ (List.getElem_mem hi)).one) ?_
      intro w5 hb5 n5 s5
      refine Exists.intro (some r) (And.intro (by rw [cell_of_row _ _ 0 _ _ _ (n5.blk hMl)]; rfl) ?_)
      refine Exists.intro ts[i].1.p (And.intro (cellB hb5 rfl) ?_)
      obtain ⟨w6, hrun, m6, s6, hm6⟩ := run_update (P := Try.prog) (t := 116) (mapl.new n5) intLaw uMapI (x := .int .i64 ts[i].1.p) (v := .bool true) rfl
      refine update_ (key := .int .i64 ts[i].1.p) (u := .bool true) rfl rfl rfl rfl hrun ?_
      have k6 : New w2 w6 := Mod.trans (kl.trans n5) m6 fun b hb e => by omega
      refine ⟨m, i + 1, by omega, ⟨rfl, rfl, rfl, rfl, rfl, inc, trivial⟩, by omega, k6, ?_, m6.blk (n5.blk hMl) hMr⟩
      refine hm6 _ ?_ ?_
      · show (bif (ts.take (i + 1)).any (fun y => decide (y.1.p = ts[i].1.p)) then some (Value.bool true) else none) = _
        rw [List.take_succ_eq_append_getElem hi, List.any_append]
        simp
      · intro y hy
        cases y with
        | int k z =>
          cases k with
          | i64 =>
            show (bif (ts.take (i + 1)).any (fun y => decide (y.1.p = z)) then some (Value.bool true) else none) = (bif (ts.take i).any (fun y => decide (y.1.p = z)) then some (Value.bool true) else none)
            rw [List.take_succ_eq_append_getElem hi, List.any_append]
            simp only [List.any_cons, List.any_nil, Bool.or_false]
            by_cases hz : ts[i].1.p = z
            · exact absurd (by rw [hz]) hy
            · rw [decide_eq_false hz, Bool.or_false]
          | _ => rfl
        | _ => rfl
    · replace hge : ¬ (i : Int) < (ts.length : Int) := hge
      obtain rfl : i = ts.length := by omega
      rw [List.take_length] at mapl
      exact hK () _ _ ⟨rfl, rfl, rfl, trivial⟩ ⟨kl, mapl, hMl⟩
  rintro _ w4 fr4 ⟨n4, map4, hM4⟩
  -- where they lead
  refine seq_cut (σ := Nat × Int) (fun t => [(4, .pointer (some ⟨h, 0, none⟩)), (5, .slice Al ts.length cl)])
    (fun t w' => Mod (fun b => b = h) w2 w' ∧ Cr w' h g A c bs t ∧ decide (t.2 = 0) = (decide (s.2 = 0) && leads (ts.map (·.1)))) ?_ ?_
  rotate_left
  · intro K hK
    refine den_loop (σ := Nat × Nat × Int) (fun t => [(4, .pointer (some ⟨h, 0, none⟩)), (5, .slice Al ts.length cl), (6, .pointer (some ⟨M, 0, none⟩)), (44, .slice Al ts.length cl), (45, .int .i64 (ts.length : Int)), (46, .int .i64 (t.1 : Int))])
      (fun m t wl => m + t.1 = ts.length ∧ Mod (fun b => b = h) w4 wl ∧ Cr wl h g A c bs t.2 ∧ decide (t.2.2 = 0) = (decide (s.2 = 0) && (ts.take t.1).all fun x => (targets x.1).all fun z => ts.any fun y => decide (y.1.p = z))) ts.length (0, s)
      ⟨rfl, rfl, rfl, rfl, rfl, rfl, trivial⟩ ⟨rfl, Mod.refl _ _, r2.new n4, by simp⟩ ?_
    rintro m ⟨i, t⟩ wl frl ⟨hfuel, kl, rl, hb⟩
    dsimp only at hfuel rl hb
    refine if_p (fun hlt => ?_) (fun hge => ?_)
    · replace hlt : (i : Int) < (ts.length : Int) := hlt
      have hi : i < ts.length := by omega
      obtain ⟨m, rfl⟩ : ∃ m', m = m' + 1 := ⟨m - 1, by omega⟩
      have inc : Value.int .i64 (IntKind.i64.wrap ((i : Int) + 1)) = .int .i64 ((i + 1 : Nat) : Int) := by
        rw [wrap_i64 (by omega) (by omega)]
        rfl
      rw [show i + 1 = i + 1 from rfl] at inc
      have ctl := (ct2.new n4).modN kl hAl hoff
      obtain ⟨aI, hAe, hcell⟩ := itF_row ctl.row hi
      refine And.intro (by omega) (And.intro hlt ?_)
      refine some_at hAe ?_
      refine loadN_row (vs := insC ts[i].1 ts[i].2) (fun k u hu => by rw [Int.toNat_natCast]; exact hcell k u hu) rfl ?_
      refine And.intro rfl ?_
      have cvi := ctl.cs _ (List.getElem_mem hi)
      refine storeNew (vs := insC ts[i].1 ts[i].2) (arr := (insC ⟨0, 0, 0, 0, []⟩ nilC).toArray) rfl (insC_one _ cvi.one) ?_
      intro w5 hb5 n5 s5
      have r5 := rl.new n5
      have hr5 := r5.blk
      have hnext : ((ts.take (i + 1)).all fun x => (targets x.1).all fun z => ts.any fun y => decide (y.1.p = z)) = (((ts.take i).all fun x => (targets x.1).all fun z => ts.any fun y => decide (y.1.p = z)) && (targets ts[i].1).all fun z => ts.any fun y => decide (y.1.p = z)) := by
        rw [List.take_succ_eq_append_getElem hi, List.all_append]
        simp
      have k5 : Mod (fun b => b = h) w4 w5 := Mod.trans kl n5.mod fun b hb e => e
      refine Exists.intro (!decide (t.2 = 0)) (And.intro (cellB hr5 rfl) ?_)
      refine if_n (fun hne => ?_) (fun h0 => ?_)
      · replace hne : ¬ t.2 = 0 := hne
        refine And.intro ⟨_, cellB hr5 rfl⟩ (And.intro (fzB hr5 _) (force_ ?_))
        refine stK hr5 (show (1 : Nat) < 2 by decide) ?_
        intro w6 hb6 m6 s6
        refine ⟨m, (i + 1, t.1, t.2), by omega, ⟨rfl, rfl, rfl, rfl, rfl, inc, trivial⟩, by dsimp only; omega, both k5 m6, r5.set m6 t.2 hb6 (by rw [decide_eq_false hne]; rfl), ?_⟩
        dsimp only
        rw [hnext, ← Bool.and_assoc, ← hb, decide_eq_false hne]
        rfl
      · replace h0 : t.2 = 0 := h0
        refine loadN_row (vs := insC ts[i].1 ts[i].2) (rowB hb5) rfl ?_
        refine call_ (Targets_ok ts[i].1 ts[i].2 w5 (cvi.new n5)) ?_
        rintro e w6 ⟨A6, c6, rfl, row6, hl6, n6⟩
        refine ⟨_, rfl, ?_⟩
        have k6 : Mod (fun b => b = h) w4 w6 := Mod.trans k5 n6.mod fun b hb e => e
        have hM6 := k6.blk hM4 (by omega)
        have map6 := map4.mod k6 (by omega)
        refine call_ (contains_ok A6 _ c6 (targets ts[i].1) M r (fun z => ts.any fun y => decide (y.1.p = z)) w6 rfl row6 hl6 (by rw [cell_of_row _ _ 0 _ _ _ hM6]; rfl) map6) ?_
        rintro e w7 ⟨rfl, hw7⟩
        obtain rfl := hw7.symm
        refine ⟨_, rfl, ?_⟩
        have r6 := r5.new n6
        have hb6 := r6.blk
        refine And.intro ⟨_, cellB hb6 rfl⟩ (And.intro (fzB hb6 _) (force_ ?_))
        refine stK hb6 (show (1 : Nat) < 2 by decide) ?_
        intro w8 hb8 m8 s8
        have hany : ((targets ts[i].1).any fun z => !ts.any fun y => decide (y.1.p = z)) = !((targets ts[i].1).all fun z => ts.any fun y => decide (y.1.p = z)) := by
          rw [List.any_eq_not_all_not]
          simp
        rw [h0, decide_eq_true (rfl : (0 : Int) = 0)] at hb
        replace hb8 : w8.heap[h]? = some (.cells #[.pointer (some ⟨g, 0, none⟩), .bool ((targets ts[i].1).any fun z => !ts.any fun y => decide (y.1.p = z))] 114 (0, 0)) := hb8
        rw [hany] at hb8
        generalize ((targets ts[i].1).all fun z => ts.any fun y => decide (y.1.p = z)) = v at hb8 hnext
        refine ⟨m, (i + 1, t.1, if v = true then 0 else 1), by omega, ⟨rfl, rfl, rfl, rfl, rfl, inc, trivial⟩, by dsimp only; omega, both k6 m8, r6.set m8 (if v = true then 0 else 1) hb8 (by cases v <;> rfl), ?_⟩
        dsimp only
        rw [hnext, ← Bool.and_assoc, ← hb]
        cases v <;> rfl
    · replace hge : ¬ (i : Int) < (ts.length : Int) := hge
      obtain rfl : i = ts.length := by omega
      rw [List.take_length] at hb
      refine hK t _ _ ⟨rfl, rfl, trivial⟩ ⟨Mod.trans n4.mod kl fun b hb e => e, rl, ?_⟩
      rw [hb]
      unfold leads
      simp only [List.all_map, List.any_map]
      rfl
  rintro t w5 fr5 ⟨k5, r5, ht5⟩
  have ct5 := ct2.modN k5 hAl hoff
  have n5 : New w w5 := Mod.trans n2 k5 fun b hb e => by omega
  refine Exists.intro (!decide (t.2 = 0)) (And.intro (cellB r5.blk rfl) ?_)
  refine if_n (fun hne => ?_) (fun h0 => ?_)
  · replace hne : ¬ t.2 = 0 := hne
    rw [decide_eq_false hne] at ht5
    rw [if_neg (fun hc => by rw [decide_eq_true hc.1, hc.2.2] at ht5; cases ht5)] at hdec
    rw [hdec]
    exact ⟨rfl, n5⟩
  replace h0 : t.2 = 0 := h0
  rw [decide_eq_true h0] at ht5
  refine if_p (fun hz => ?_) (fun hz => ?_)
  · replace hz : (ts.length : Int) = 0 := hz
    have : ts = [] := List.length_eq_zero_iff.1 (by omega)
    rw [if_neg (fun hc => hc.2.1 (by rw [this]; rfl))] at hdec
    rw [hdec]
    exact ⟨rfl, n5⟩
  · replace hz : ¬ (ts.length : Int) = 0 := hz
    have hand := ht5.symm
    rw [Bool.and_eq_true] at hand
    rw [if_pos ⟨of_decide_eq_true hand.1, fun h => by rw [List.map_eq_nil_iff] at h; rw [h] at hz; exact hz rfl, hand.2⟩] at hdec
    rw [hdec]
    exact ⟨⟨ts, Al, cl, rfl, rfl, ct5, hcap, htop⟩, n5⟩
end Go.Proofs.Ytcpeekeiflglpaa.Code

/- The package pool, walked: a constant put into a pool. -/
import Derived.Test.YtbmlfbcanjobfaaPWalk9
namespace Go.Proofs.Ytbmlfbcanjobfaa.Pool
open Go Go.Proofs.Ytbmlfbcanjobfaa Go.Proofs.Ytbmlfbcanjobfaa.Eng Go.Proofs
set_option maxRecDepth 10000

def ff (p : Nat → Bool) (n i : Nat) : Option Nat := first p (n - i) i
theorem ff_step {p : Nat → Bool} {n i : Nat} (h : i < n) : ff p n i = if p i then some i else ff p n (i + 1) := by
  unfold ff
  rw [show n - i = (n - (i + 1)) + 1 by omega, first]
theorem ff_end {p : Nat → Bool} {n : Nat} : ff p n n = none := by
  unfold ff
  rw [Nat.sub_self]
  rfl
def iv (k : Nat) : Value := .int .i64 (k : Int)
/-- The map holds what stands from a place on. -/
structure Fg (l : List Ent) (c : Con) (f : Value → Option Value) (i : Nat) : Prop where
  ent : ∀ x : Ent, EntOk x → x.tag ≠ 0 → f (entV x) = (ff (fun k => decide (at_ l k = x)) l.length i).map iv
  con : f (entV e0) = if c.tag = 0 then none else (ff (fun k => decide (mean l k = c)) l.length i).map iv
theorem fg_start (l : List Ent) (c : Con) : Fg l c (fun _ => none) l.length := by
  refine ⟨fun x _ _ => by rw [ff_end]; rfl, ?_⟩
  split
  · rfl
  · rw [ff_end]; rfl
open Classical in
noncomputable def fA (l : List Ent) (c : Con) (f : Value → Option Value) (i : Nat) : Value → Option Value := if c.tag ≠ 0 ∧ mean l i = c then upf f (entV e0) (iv i) else f
open Classical in
noncomputable def fB (l : List Ent) (f : Value → Option Value) (i : Nat) : Value → Option Value := if (at_ l i).tag ≠ 0 then upf f (entV (at_ l i)) (iv i) else f
theorem fg_step {l : List Ent} {c : Con} {f : Value → Option Value} {i : Nat} (hi : i < l.length) (h : Fg l c f (i + 1)) : Fg l c (fB l (fA l c f i) i) i := by
  refine ⟨fun x hx ht => ?_, ?_⟩
  · have ea : fA l c f i (entV x) = f (entV x) := by
      unfold fA
      split
      · exact upf_other _ _ _ _ fun e => ht (by rw [entV_inj e]; rfl)
      · rfl
    rw [ff_step hi]
    unfold fB
    by_cases hxi : at_ l i = x
    · rw [if_pos (by rw [hxi]; exact ht), hxi, upf_same, if_pos (decide_eq_true rfl)]
      rfl
    · rw [if_neg (show ¬ (decide (at_ l i = x) = true) by simpa using hxi)]
      split
      · rw [upf_other _ _ _ _ fun e => hxi (entV_inj e).symm, ea]
        exact h.ent x hx ht
      · rw [ea]
        exact h.ent x hx ht
  · have eb : fB l (fA l c f i) i (entV e0) = fA l c f i (entV e0) := by
      unfold fB
      split
      · rename_i h0
        exact upf_other _ _ _ _ fun e => h0 (by rw [← entV_inj e]; rfl)
      · rfl
    rw [eb]
    unfold fA
    by_cases hc : c.tag = 0
    · rw [if_neg (fun h => h.1 hc), if_pos hc]
      have := h.con
      rw [if_pos hc] at this
      exact this
    · rw [if_neg hc, ff_step hi]
      by_cases hm : mean l i = c
      · rw [if_pos ⟨hc, hm⟩, upf_same, if_pos (decide_eq_true hm)]
        rfl
      · rw [if_neg (fun h => hm h.2), if_neg (show ¬ (decide (mean l i = c) = true) by simpa using hm)]
        have := h.con
        rw [if_neg hc] at this
        exact this
theorem EClone_ok (A : Option Addr) (n c : Nat) (l : List Ent) (w : World) (h : Pl w A n l) (hm : n ≤ 100000) :
    Calls Try.prog 34 #[.slice A n c] w fun e w' => ∃ v, e = .returned v ∧ w'.ownsRow w.heap.size 67 5 v l.length (l.map entC).flatten ∧ New w w' := by
  refine enter ok Try.func34 rfl rfl rfl ?_
  have hlen := h.len
  have hfl := ents_flen l
  refine if_ (fun hn => ?_) (fun hn => ?_)
  · cases A with
    | some a => cases hn
    | none =>
      have : l = [] := by
        cases l with
        | nil => rfl
        | cons x r => obtain ⟨a, ha, _⟩ := h.row.at_ 0 (by simp); cases ha
      subst this
      exact ⟨_, rfl, ⟨rfl, .inl ⟨rfl, rfl⟩⟩, New.refl _⟩
  · have n1 := New.alloc w (.cells #[] 67)
    refine append_ ok rfl rfl rfl rfl (own_lit w [] 67 5 0 w.heap.size (Nat.le_refl _) rfl (by omega)) rfl rfl (row_of_rows2 (h.row.new n1)) (by rw [hfl, hlen]) ?_ (by decide) rfl (by show (0 + n) * 48 ≤ _; omega) (by omega) (by simp) ?_
    · intro u hu
      obtain ⟨cs, hcs, huc⟩ := List.mem_flatten.1 hu
      obtain ⟨x, _, rfl⟩ := List.mem_map.1 hcs
      exact entC_one x u huc
    intro A' c' w' hown hmod
    rw [Nat.zero_add] at hown
    refine ⟨_, rfl, ?_, ?_⟩
    · rw [← hlen, Nat.zero_add]
      exact hown
    · exact Mod.trans n1 hmod fun i hi h => by
        simp only [Value.ownBlock, Option.some.injEq] at h
        omega
theorem own_low {w : World} {b b' : Nat} {e : TypeId} {sz n : Nat} {v : Value} {xs : List Value} (h : w.ownsRow b' e sz v n xs) (hb : b ≤ b') : w.ownsRow b e sz v n xs :=
  ⟨h.1, h.2.imp id fun ⟨g, cap, cur, e, hg, r⟩ => ⟨g, cap, cur, e, Nat.le_trans hb hg, r⟩⟩
theorem fA_yes {l : List Ent} {c : Con} {f : Value → Option Value} {i : Nat} (h0 : c.tag ≠ 0) (h : mean l i = c) : fA l c f i = upf f (entV e0) (iv i) := by unfold fA; rw [if_pos ⟨h0, h⟩]
theorem fA_no {l : List Ent} {c : Con} {f : Value → Option Value} {i : Nat} (h : ¬ (c.tag ≠ 0 ∧ mean l i = c)) : fA l c f i = f := by unfold fA; rw [if_neg h]
theorem fB_yes {l : List Ent} {f : Value → Option Value} {i : Nat} (h0 : (at_ l i).tag ≠ 0) : fB l f i = upf f (entV (at_ l i)) (iv i) := by unfold fB; rw [if_pos h0]
theorem fB_no {l : List Ent} {f : Value → Option Value} {i : Nat} (h0 : ¬ (at_ l i).tag ≠ 0) : fB l f i = f := by unfold fB; rw [if_neg h0]
def PutOk (w : World) (l : List Ent) (c : Con) (e : Ending) (w' : World) : Prop :=
  ∃ v, e = .returned (.tuple #[v, .int .i64 ((put l c).2.1 : Int), .int .i64 (put l c).2.2]) ∧ w'.ownsRow w.heap.size 67 5 v (put l c).1.length ((put l c).1.map entC).flatten ∧ New w w' ∧ ∀ x ∈ (put l c).1, EntOk x
theorem Put_ok (A : Option Addr) (n q : Nat) (l : List Ent) (c : Con) (w : World) (h : Pl w A n l) (hc : ConOk c) :
    Calls Try.prog 10 #[.slice A n q, conV c] w (PutOk w l c) := by
  refine enter ok Try.func10 rfl rfl rfl ?_
  have hb3 := heap_alloc_new w (.cells (conCs c).toArray 24)
  have n1 := New.alloc w (.cells (conCs c).toArray 24)
  have nil : ∀ (er : Int) w', New w w' → put l c = ([], 0, er) → PutOk w l c (.returned (.tuple #[.slice none 0 0, .int .i64 0, .int .i64 er])) w' := fun er w' k hp => by
    unfold PutOk
    rw [hp]
    exact ⟨_, rfl, ⟨rfl, .inl ⟨rfl, rfl⟩⟩, k, fun _ h => by cases h⟩
  refine call_ (Check_ok A n q l (w.alloc (.cells (conCs c).toArray 24)) (h.new n1)) ?_
  rintro e w1 ⟨rfl, n2⟩
  refine ⟨_, rfl, ?_⟩
  have k1 := n1.trans n2
  have hb1 := n2.blk hb3
  rcases chk_cases l with ⟨hk, ho⟩ | ⟨hk, ho⟩
  · rw [hk]
    exact nil 70 w1 k1 (by unfold put; rw [ho]; rfl)
  rw [hk]
  have hO := (okB_iff l).1 ho
  have hlen := h.len
  have hl1 := hO.2
  have hl0 := hO.1.pos
  have hput : put l c = put1 l c (firstMean l c) := by unfold put; rw [if_pos ho]
  refine call_ (EClone_ok A n q l w1 (h.new k1) (by omega)) ?_
  rintro e w2 ⟨v, rfl, own2, n3⟩
  obtain ⟨A2, c2, rfl, _⟩ := own_slice own2
  refine ⟨_, rfl, ?_⟩
  have k2 := k1.trans n3
  have hb2 := n3.blk hb1
  refine op_ rfl (op_makeMap rfl (makeMap_ rfl ?_))
  refine op_ rfl (op_build rfl (build_ (cells := [.slice A2 l.length c2, .map (some w2.heap.size)]) rfl rfl rfl rfl ?_))
  have nM := New.alloc w2 (.map #[] 0)
  have hsM : (w2.alloc (.map #[] 0)).heap.size = w2.heap.size + 1 := by simp
  have nG := New.alloc (w2.alloc (.map #[] 0)) (.cells #[.slice A2 l.length c2, .map (some w2.heap.size)] 72)
  have hbG := heap_alloc_new (w2.alloc (.map #[] 0)) (.cells #[.slice A2 l.length c2, .map (some w2.heap.size)] 72)
  have mapG := (mapF_new entK w2).new nG
  have n24 := nM.trans nG
  have k4 := k2.trans n24
  have own4 := own_new n24 own2
  have hs12 := k1.size
  have hs02 := k2.size
  have hs23 := n3.size
  have hneG : (w2.alloc (.map #[] 0)).heap.size ≠ w2.heap.size := by rw [hsM]; omega
  have hb4c := n24.blk hb2
  have hcl := (Array.getElem?_eq_some_iff.1 hb2).1
  have own2lt := fun b (e : (Value.slice A2 l.length c2).ownBlock = some b) => own2.lt b e
  have hown_r : (Value.slice A2 l.length c2).ownBlock ≠ some w2.heap.size := fun e => by have := (own2lt _ e).2; omega
  have hown_g : (Value.slice A2 l.length c2).ownBlock ≠ some (w2.alloc (.map #[] 0)).heap.size := fun e => by have := (own2lt _ e).2; rw [hsM] at this; omega
  refine den_loop (σ := Nat × (Value → Option Value)) (fun t => [(0, .slice A n q), (3, .pointer (some ⟨w.heap.size, 0, none⟩)), (8, .pointer (some ⟨(w2.alloc (.map #[] 0)).heap.size, 0, none⟩)), (9, .int .i64 (t.1 : Int))])
    (fun m t wl => t.1 < n ∧ t.1 = m ∧ MapF entK wl w2.heap.size t.2 ∧ Fg l c t.2 (t.1 + 1) ∧ wl.heap[(w2.alloc (.map #[] 0)).heap.size]? = some (.cells #[.slice A2 l.length c2, .map (some w2.heap.size)] 72 (0, 0)) ∧ wl.heap[w.heap.size]? = some (.cells (conCs c).toArray 24 (0, 0)) ∧
      wl.ownsRow w1.heap.size 67 5 (.slice A2 l.length c2) l.length (l.map entC).flatten ∧ New w wl) (n - 1) (n - 1, fun _ => none) ⟨rfl, rfl, rfl, ?_, trivial⟩ ⟨by show n - 1 < n; omega, rfl, mapG, ?_, hbG, hb4c, own4, k4⟩ ?_
  · show Value.int .i64 (IntKind.i64.wrap ((n : Int) - 1)) = .int .i64 ((n - 1 : Nat) : Int)
    rw [wrap_i64 (by omega) (by omega)]
    congr 1
    omega
  · show Fg l c (fun _ => none) (n - 1 + 1)
    rw [show n - 1 + 1 = l.length by omega]
    exact fg_start l c
  rintro m ⟨i, f⟩ wl fr0 ⟨hin, rfl, hmap, hfg, hbg, hbc, hown, kl⟩
  dsimp only at hin hmap hfg
  refine if_p (fun hpos => ?_) (fun hzero => ?_)
  · replace hpos : (0 : Int) < i := hpos
    refine skip_ (thenF_ (seq_ (block_ ?_)))
    have step : ∀ wx, New w wx → MapF entK wx w2.heap.size (fB l (fA l c f i) i) → wx.heap[(w2.alloc (.map #[] 0)).heap.size]? = some (.cells #[.slice A2 l.length c2, .map (some w2.heap.size)] 72 (0, 0)) → wx.heap[w.heap.size]? = some (.cells (conCs c).toArray 24 (0, 0)) →
        wx.ownsRow w1.heap.size 67 5 (.slice A2 l.length c2) l.length (l.map entC).flatten → (i - 1 < n ∧ i - 1 = i - 1 ∧ MapF entK wx w2.heap.size (fB l (fA l c f i) i) ∧ Fg l c (fB l (fA l c f i) i) (i - 1 + 1) ∧ wx.heap[(w2.alloc (.map #[] 0)).heap.size]? = some (.cells #[.slice A2 l.length c2, .map (some w2.heap.size)] 72 (0, 0)) ∧ wx.heap[w.heap.size]? = some (.cells (conCs c).toArray 24 (0, 0)) ∧
      wx.ownsRow w1.heap.size 67 5 (.slice A2 l.length c2) l.length (l.map entC).flatten ∧ New w wx) := fun wx kx h1 h2 h3 h4 => ⟨by omega, rfl, h1, by rw [show i - 1 + 1 = i by omega]; exact fg_step (by omega) hfg, h2, h3, h4, kx⟩
    have dec : Value.int .i64 (IntKind.i64.wrap ((i : Int) - 1)) = .int .i64 ((i - 1 : Nat) : Int) := by
      rw [wrap_i64 (by omega) (by omega)]
      congr 1
      omega
    refine seq_cut (σ := Unit) (fun _ => [(0, .slice A n q), (3, .pointer (some ⟨w.heap.size, 0, none⟩)), (8, .pointer (some ⟨(w2.alloc (.map #[] 0)).heap.size, 0, none⟩)), (9, .int .i64 (i : Int))])
      (fun _ wx => MapF entK wx w2.heap.size (fA l c f i) ∧ wx.heap[(w2.alloc (.map #[] 0)).heap.size]? = some (.cells #[.slice A2 l.length c2, .map (some w2.heap.size)] 72 (0, 0)) ∧ wx.heap[w.heap.size]? = some (.cells (conCs c).toArray 24 (0, 0)) ∧
      wx.ownsRow w1.heap.size 67 5 (.slice A2 l.length c2) l.length (l.map entC).flatten ∧ New w wx) ?_ ?_
    rotate_left
    · intro K hK
      refine draw_ (w := wl) ok (.q 0 (.q 1 (.q 2 (.q 3 (.q 4 (.q 5 (.q 7 (.e 6 (.q 8 (.q 9 .done)))))))))) [9] (New wl) (by kernel_rfl) (by kernel_rfl) (by kernel_rfl) (by kernel_rfl) (by kernel_rfl) (New.drew _) ?_
      refine Exists.intro c.tag (And.intro (fun w'' hw => cellB (hw.blk hbc) rfl) ?_)
      have kd := New.drew wl
      refine if_n (fun h0 => ?_) (fun h0 => ?_)
      · refine loadNC_row (vs := conCs c) (fun k u hu w'' hw => rowB (hw.blk hbc) k u hu) rfl ?_
        refine call_ (mean_ok A n q l i wl.drew (h.new (kl.trans kd)) hO.1) ?_
        rintro e w6 ⟨rfl, n6⟩
        refine ⟨_, rfl, ?_⟩
        have k6 := kd.trans n6
        refine Exists.intro (New wl) (And.intro (fun _ h => h) (And.intro k6 ?_))
        refine Exists.intro (.bool (decide (mean l i = c))) (And.intro (fun w'' _ => agg_cmp ok rfl rfl rfl (by kernel_rfl) (by kernel_rfl) rfl rfl rfl (decide (mean l i = c)) (.inl ⟨rfl, conEq _ _⟩) w'') ?_)
        refine if_p (fun hm => ?_) (fun hm => ?_)
        · refine Exists.intro (some w2.heap.size) (And.intro (cellB (k6.blk hbg) rfl) ?_)
          refine op_ rfl (op_build rfl (build_ (cells := entC e0) rfl rfl rfl rfl ?_))
          refine op_ rfl (op_move rfl (op_ rfl (op_mapUpdate rfl ?_)))
          obtain ⟨w7, hrun, m7, s7, hm7⟩ := run_update (P := Try.prog) (t := 70) (hmap.new k6) entLaw uMap (v := iv i) (entKey ok_e0)
          refine update_ (key := entV e0) (u := iv i) rfl rfl rfl rfl hrun ?_
          refine hK () _ _ ⟨rfl, rfl, rfl, rfl, trivial⟩ ⟨?_, m7.keep (k6.blk hbg) hneG, m7.keep (k6.blk hbc) (by omega), own_mod m7 (own_new k6 hown) (fun k hk e => hown_r (by rw [hk, e])), (kl.trans k6).st m7 (by omega)⟩
          rw [fA_yes h0 hm]
          exact hm7 _ (upf_same _ _ _) fun y hy => upf_other _ _ _ y hy
        · refine hK () _ _ ⟨rfl, rfl, rfl, rfl, trivial⟩ ⟨?_, k6.blk hbg, k6.blk hbc, own_new k6 hown, kl.trans k6⟩
          rw [fA_no fun h => hm h.2]
          exact hmap.new k6
      · refine hK () _ _ ⟨rfl, rfl, rfl, rfl, trivial⟩ ⟨?_, kd.blk hbg, kd.blk hbc, own_new kd hown, kl.trans kd⟩
        rw [fA_no fun h => h.1 h0]
        exact hmap.new kd
    rintro _ wx fr1 ⟨hmap1, hbg1, hbc1, hown1, kx⟩
    obtain ⟨a, rfl, hoki, hci⟩ := h.at_ hin
    refine And.intro (by omega) (And.intro (by omega) ?_)
    refine Exists.intro (at_ l i).tag (And.intro (by rw [Int.toNat_natCast]; exact kx.cell (hci 0 _ rfl)) ?_)
    refine if_n (fun ht => ?_) (fun ht => ?_)
    · have kd := New.drew wx
      refine draw_ (w := wx) ok (.q 0 (.q 1 (.q 2 (.q 3 (.q 4 (.q 5 (.q 6 (.q 7 (.q 8 (.e 9 .done)))))))))) [9] (New wx) (by kernel_rfl) (by kernel_rfl) (by kernel_rfl) (by kernel_rfl) (by kernel_rfl) kd ?_
      refine Exists.intro (some w2.heap.size) (And.intro (fun w'' hw => cellB (hw.blk hbg1) rfl) ?_)
      refine And.intro (by omega) (And.intro (by omega) ?_)
      refine loadNC_row (vs := entC (at_ l i)) (fun j u hu w'' hw => by rw [Int.toNat_natCast]; exact (kx.trans hw).cell (hci j u hu)) rfl ?_
      obtain ⟨w7, hrun, m7, s7, hm7⟩ := run_update (P := Try.prog) (t := 70) (hmap1.new kd) entLaw uMap (v := iv i) (entKey hoki)
      refine ⟨op_mapUpdate rfl (update_ (key := entV (at_ l i)) (u := iv i) rfl rfl rfl rfl hrun ?_)⟩
      refine ⟨i - 1, (i - 1, fB l (fA l c f i) i), by omega, ⟨rfl, rfl, rfl, dec, trivial⟩, step w7 ((kx.trans kd).st m7 (by omega)) ?_ (m7.keep (kd.blk hbg1) hneG) (m7.keep (kd.blk hbc1) (by omega)) (own_mod m7 (own_new kd hown1) (fun k hk e => hown_r (by rw [hk, e])))⟩
      rw [fB_yes ht]
      exact hm7 _ (upf_same _ _ _) fun y hy => upf_other _ _ _ y hy
    · refine ⟨i - 1, (i - 1, fB l (fA l c f i) i), by omega, ⟨rfl, rfl, rfl, dec, trivial⟩, step wx kx ?_ hbg1 hbc1 hown1⟩
      rw [fB_no fun h => h ht]
      exact hmap1
  · replace hzero : ¬ (0 : Int) < i := hzero
    obtain rfl : i = 0 := by omega
    refine Exists.intro (some w2.heap.size) (And.intro (cellB hbg rfl) ?_)
    refine op_ rfl (op_build rfl (build_ (cells := entC e0) rfl rfl rfl rfl ?_))
    refine op_ rfl (op_lookup rfl (raw_value (exec_lookup (key := entV e0) rfl rfl rfl (run_lookup hmap entLaw uMap (zInt wl) (entKey ok_e0))) ?_))
    have hcon : f (entV e0) = (firstMean l c).map iv := by
      rw [hfg.con]
      unfold firstMean
      split <;> rfl
    rw [hcon]
    cases hfm : firstMean l c with
    | some k =>
      obtain ⟨_, hk1, _⟩ := firstMean_some hfm
      refine if_yes (decide_eq_true (show (0 : Int) < (k : Int) by omega)) ?_
      refine Exists.intro A2 (Exists.intro l.length (Exists.intro c2 (And.intro (cellB hbg rfl) ?_)))
      unfold PutOk
      rw [hput, hfm]
      exact ⟨_, rfl, own_low hown (by omega), kl, h.oks⟩
    | none =>
      refine loadN_row (vs := conCs c) (rowB hbc) rfl ?_
      have hMk : Mk wl w.heap.size (w2.alloc (.map #[] 0)).heap.size w2.heap.size (.slice A2 l.length c2) l f := ⟨hbg, own_low hown (by omega), hmap, hown_g, h.oks, fun x hx ht => hfg.ent x hx ht, hl0⟩
      refine call_ (mput_ok w.heap.size _ w2.heap.size _ l f c wl hMk hc (by omega) kl.size) ?_
      rintro e w9 ⟨v9, f9, l9, k9, rfl, hM9, m9, s9, hres⟩
      refine ⟨_, rfl, ?_⟩
      have kk : New w w9 := Mod.trans kl m9 fun b hb e => by
        rcases e with e | e | e
        · rw [hsM] at e; omega
        · omega
        · have := (own2lt _ e.symm).1
          omega
      obtain ⟨A9, c9, rfl, _⟩ := own_slice hM9.own
      rcases hres with ⟨hn, rfl⟩ | hs
      · exact nil 2 w9 kk (by rw [hput, hfm]; unfold put1; rw [hn]; rfl)
      · obtain ⟨hmns, _⟩ := putC_means hO.1 hs
        have hk1 := hmns.one
        simp only at hk1
        refine if_no (decide_eq_false (show ¬ (k9 : Int) = 0 by omega)) ?_
        refine Exists.intro A9 (Exists.intro l9.length (Exists.intro c9 (And.intro (cellB hM9.blk rfl) ?_)))
        refine if_p (fun hbig => ?_) (fun hsm => ?_)
        · replace hbig : (1024 : Int) < (l9.length : Int) := hbig
          exact nil 3 w9 kk (by rw [hput, hfm]; unfold put1; rw [hs]; exact if_pos (show 1024 < l9.length by omega))
        · replace hsm : ¬ (1024 : Int) < (l9.length : Int) := hsm
          refine Exists.intro A9 (Exists.intro l9.length (Exists.intro c9 (And.intro (cellB hM9.blk rfl) ?_)))
          have hp : put l c = (l9, k9, 0) := by rw [hput, hfm]; unfold put1; rw [hs]; exact if_neg (show ¬ 1024 < l9.length by omega)
          unfold PutOk
          rw [hp]
          exact ⟨_, rfl, hM9.own, kk, hM9.oks⟩
end Go.Proofs.Ytbmlfbcanjobfaa.Pool

/- The package pool, walked: a pool read. -/
import Derived.Test.YtbmlfbcanjobfaaPReadW
namespace Go.Proofs.Ytbmlfbcanjobfaa.Pool
open Go Go.Proofs.Ytbmlfbcanjobfaa Go.Proofs.Ytbmlfbcanjobfaa.Eng Go.Proofs Go.Proofs.Ytbmlfbcanjobfaa.Word
set_option maxRecDepth 10000

theorem loopR_stop {bs : List UInt8} {n : Int} {f : Nat} {acc : List Ent} {s : Nat × Int} (h : ¬ ((acc.length : Int) < n ∧ s.2 = 0)) : loopR bs n f acc s = (acc, s) := by
  cases f with
  | zero => rfl
  | succ f => unfold loopR; rw [if_neg h]
theorem loopR_step {bs : List UInt8} {n : Int} {f : Nat} {acc : List Ent} {s : Nat × Int} (h : (acc.length : Int) < n ∧ s.2 = 0) : loopR bs n (f + 1) acc s = loopR bs n f (acc ++ (entR bs s).1 :: tailOf (entR bs s).1) (entR bs s).2 := by
  rw [loopR, if_pos h]
def ReadOk (w : World) (g : Nat) (A : Option Addr) (c : Nat) (bs : List UInt8) (i : Nat) (e : Ending) (w' : World) : Prop :=
  ∃ v l j er, readR bs i = (l, j, er) ∧ e = .returned (.tuple #[v, .int .i64 er]) ∧ w'.ownsRow w.heap.size 67 5 v l.length (l.map entC).flatten ∧ (∀ x ∈ l, EntOk x) ∧ Rd w' g A c bs j ∧ Mod (fun b => b = g) w w'
theorem Read_ok (g : Nat) (A : Option Addr) (c : Nat) (bs : List UInt8) (i : Nat) (w : World) (h : Rd w g A c bs i) (hm : bs.length ≤ 140737488355328) :
    Calls Try.prog 19 #[.pointer (some ⟨g, 0, none⟩)] w (ReadOk w g A c bs i) := by
  refine enter ok Try.func19 rfl rfl rfl ?_
  have n0 := New.alloc w (.cells #[.pointer (some ⟨g, 0, none⟩), .int .i64 0] 87)
  have hb0 := heap_alloc_new w (.cells #[.pointer (some ⟨g, 0, none⟩), .int .i64 0] 87)
  have sz0 : (w.alloc (.cells #[.pointer (some ⟨g, 0, none⟩), .int .i64 0] 87)).heap.size = w.heap.size + 1 := by simp
  have hlow := rd_low h
  have hg := h.lt
  have p0 : Pr (w.alloc (.cells #[.pointer (some ⟨g, 0, none⟩), .int .i64 0] 87)) w.heap.size g A c bs (i, 0) := ⟨hb0, h.new n0, by omega, fun a ha hn => by have := hlow a ha hn; omega⟩
  have fail : ∀ (s : Nat × Int) (er : Int) w', readR bs i = ([], s.1, er) → Pr w' w.heap.size g A c bs s → Mod (fun b => b = g) w w' → ReadOk w g A c bs i (.returned (.tuple #[.slice none 0 0, .int .i64 er])) w' := fun s er w' hr p m =>
    ⟨_, [], s.1, er, hr, rfl, ⟨rfl, .inl ⟨rfl, rfl⟩⟩, (fun _ h => by cases h), p.rd, m⟩
  refine call_ (number_ok w.heap.size g A c bs (i, 0) 2 false (w.alloc (.cells #[.pointer (some ⟨g, 0, none⟩), .int .i64 0] 87)) p0) ?_
  rintro e w1 ⟨rfl, p1, m1⟩
  refine ⟨_, rfl, ?_⟩
  have k1 : Mod (fun b => b = g) w w1 := Mod.trans n0.mod m1 fun b hb e => by rcases e with e | e <;> omega
  have s1 := m1.size
  have hR : readR bs i = if (numR bs false 2 (i, 0)).2.2 ≠ 0 then ([], (numR bs false 2 (i, 0)).2)
    else if (numR bs false 2 (i, 0)).1 < 1 ∨ 1024 < (numR bs false 2 (i, 0)).1 then ([], (numR bs false 2 (i, 0)).2.1, 70)
    else readEnd (numR bs false 2 (i, 0)).1 (loopR bs (numR bs false 2 (i, 0)).1 (numR bs false 2 (i, 0)).1.toNat [e0] (numR bs false 2 (i, 0)).2) := rfl
  generalize numR bs false 2 (i, 0) = q at hR p1
  obtain ⟨n, s⟩ := q
  simp only at hR p1
  refine Exists.intro s.2 (And.intro (cellB p1.blk rfl) ?_)
  refine if_n (fun hne => ?_) (fun h0 => ?_)
  · rw [if_pos (show s.2 ≠ 0 from hne)] at hR
    refine draw_ (w := w1) ok (.q 0 (.q 1 (.q 2 (.q 3 (.q 4 (.q 5 .done)))))) [5] (New w1) (by kernel_rfl) (by kernel_rfl) (by kernel_rfl) (by kernel_rfl) (by kernel_rfl) (New.drew _) ?_
    refine Exists.intro s.2 (And.intro (fun w'' hw => cellB (hw.blk p1.blk) rfl) ?_)
    exact fail s s.2 _ hR (p1.new (New.drew _)) (k1.trans (New.drew _) (fun _ _ e => False.elim e))
  rw [if_neg (show ¬ s.2 ≠ 0 from fun hc => hc h0)] at hR
  refine if_p (fun hlt => ?_) (fun hge => ?_)
  · rw [if_pos (.inl hlt)] at hR
    exact fail s 70 _ hR p1 k1
  refine if_p (fun hgt => ?_) (fun hle => ?_)
  · rw [if_pos (.inr hgt)] at hR
    exact fail s 70 _ hR p1 k1
  replace hge : ¬ n < 1 := hge
  replace hle : ¬ 1024 < n := hle
  rw [if_neg (by omega)] at hR
  have n2 := New.alloc w1 (.cells (entC e0).toArray 67)
  have own2 := own_lit w1 (entC e0) 67 5 1 (w.heap.size + 1) (by omega) rfl (by omega)
  refine den_loop (σ := (Option Addr × Nat) × List Ent × Nat × Int) (fun t => [(4, .pointer (some ⟨w.heap.size, 0, none⟩)), (5, .int .i64 n), (6, .slice t.1.1 t.2.1.length t.1.2)])
    (fun m t wl => loopR bs n m t.2.1 t.2.2 = loopR bs n n.toNat [e0] s ∧ n ≤ (t.2.1.length : Int) + m ∧ t.2.1.length ≤ 1026 ∧ Pr wl w.heap.size g A c bs t.2.2 ∧ Mod (fun b => b = g) w wl ∧ w.heap.size + 1 ≤ wl.heap.size ∧
      wl.ownsRow (w.heap.size + 1) 67 5 (.slice t.1.1 t.2.1.length t.1.2) t.2.1.length (t.2.1.map entC).flatten ∧ ∀ x ∈ t.2.1, EntOk x) n.toNat ((some ⟨w1.heap.size, 0, none⟩, 1), [e0], s)
    ⟨rfl, rfl, rfl, trivial⟩ ⟨rfl, by simp only; omega, by simp, p1.new n2, k1.trans n2 (fun _ _ e => False.elim e), Nat.le_trans (by omega) n2.size, own2, fun x hx => by rw [List.mem_singleton.1 hx]; exact ok_e0⟩ ?_
  rintro m ⟨⟨Al, cl⟩, acc, s'⟩ wl fr0 ⟨hloop, hfuel, hacc, pl, kl, hsl, own, oks⟩
  dsimp only at hloop hfuel hacc pl own oks
  have hown := fun b (e : (Value.slice Al acc.length cl).ownBlock = some b) => own.lt b e
  have herr : ∀ (hne : s'.2 ≠ 0), ReadOk w g A c bs i (.returned (.tuple #[.slice none 0 0, .int .i64 s'.2])) wl.drew := fun hne => by
    rw [← hloop, loopR_stop (fun h => hne h.2)] at hR
    unfold readEnd at hR
    rw [if_pos (show (acc, s').2.2 ≠ 0 from hne)] at hR
    exact fail s' s'.2 _ hR (pl.new (New.drew _)) (kl.trans (New.drew _) (fun _ _ e => False.elim e))
  refine if_p (fun hlt => ?_) (fun hge => ?_)
  · replace hlt : (acc.length : Int) < n := hlt
    refine Exists.intro s'.2 (And.intro (cellB pl.blk rfl) ?_)
    refine if_p (fun hz => ?_) (fun hz => ?_)
    · replace hz : s'.2 = 0 := hz
      cases m with
      | zero => omega
      | succ m =>
      rw [loopR_step ⟨hlt, hz⟩] at hloop
      refine call_ (entry_ok w.heap.size g A c bs s' wl pl hm) ?_
      rintro e w4 ⟨rfl, p4, m4⟩
      refine ⟨_, rfl, ?_⟩
      have hx := (entR_ok bs s' pl.rd.at_ (by omega)).1
      generalize entR bs s' = q at hloop p4 hx
      obtain ⟨x, s4⟩ := q
      dsimp only at hloop p4 hx
      have k4 : Mod (fun b => b = g) w w4 := Mod.trans kl m4 fun b hb e => by rcases e with e | e <;> omega
      have s4z := m4.size
      have own4 := own_mod m4 own (fun b hb e => by have := hown b hb; rcases e with e | e <;> omega)
      refine And.intro rfl ?_
      refine storeNew (vs := entC x) (arr := entZ) rfl (entC_one _) ?_
      intro w5 hb5 n5 s5
      have k5 : Mod (fun b => b = g) w w5 := k4.trans n5 (fun _ _ e => False.elim e)
      refine loadN_row (vs := entC x) (rowB hb5) rfl ?_
      have n6 := New.alloc w5 (.cells (entC x).toArray 67)
      have row6 : Row (w5.alloc (.cells (entC x).toArray 67)) (some ⟨w5.heap.size, 0, none⟩) (entC x) := row_alloc w5 (entC x) _ _
      have n56 := n5.trans n6
      have s56 := n56.size
      refine append_ ok rfl rfl rfl rfl (own_new n56 own4) rfl rfl row6 rfl (entC_one x) (by decide) rfl (by show (acc.length + 1) * 48 ≤ _; omega) (by omega) (Nat.le_trans (Nat.le_trans hsl s4z) s56) ?_
      intro A7 c7 w7 own7 mod7
      rw [← ents_snoc] at own7
      have m47 := Mod.trans n56.mod mod7 (S := fun b => some b = (Value.slice Al acc.length cl).ownBlock) fun _ _ h => h
      have hg' : ¬ some g = (Value.slice Al acc.length cl).ownBlock := fun e => by have := hown g e.symm; omega
      have hh' : ¬ some w.heap.size = (Value.slice Al acc.length cl).ownBlock := fun e => by have := hown _ e.symm; omega
      have ha' : ∀ a, A = some a → bs ≠ [] → ¬ some a.block = (Value.slice Al acc.length cl).ownBlock := fun a ha hn e => by have := hlow a ha hn; have := hown _ e.symm; omega
      have p7 := p4.modN m47 hh' hg' ha'
      have k7 : Mod (fun b => b = g) w w7 := Mod.trans k4 m47 fun b hb e => by have := hown b e.symm; omega
      have hb7 := mod7.blk (n6.blk hb5) (fun e => by have := hown _ e.symm; omega)
      have s7 := m47.size
      refine Exists.intro x.tag (And.intro (cellB hb7 rfl) ?_)
      refine if_p (fun h5 => ?_) (fun h5 => ?_)
      · replace h5 : x.tag = 5 := h5
        have n8 := New.alloc w7 (.cells (entC e0).toArray 67)
        have row8 : Row (w7.alloc (.cells (entC e0).toArray 67)) (some ⟨w7.heap.size, 0, none⟩) (entC e0) := row_alloc w7 (entC e0) _ _
        have own7' := fun b (e : (Value.slice A7 (acc.length + 1) c7).ownBlock = some b) => own7.lt b e
        refine append_ ok rfl rfl rfl rfl (own_new n8 own7) rfl rfl row8 rfl (entC_one e0) (by decide) rfl (by show (acc.length + 1 + 1) * 48 ≤ _; omega) (by omega) (Nat.le_trans (Nat.le_trans (Nat.le_trans hsl s4z) s7) n8.size) ?_
        intro A9 c9 w9 own9 mod9
        have e10 : ((acc ++ [x]).map entC).flatten ++ entC e0 = ((acc ++ [x, e0]).map entC).flatten := by rw [← ents_snoc, List.append_assoc]; rfl
        rw [e10] at own9
        have m79 := Mod.trans n8.mod mod9 (S := fun b => some b = (Value.slice A7 (acc.length + 1) c7).ownBlock) fun _ _ h => h
        have et : tailOf x = [e0] := by unfold tailOf; rw [if_pos h5]
        rw [et] at hloop
        have hl : (acc ++ [x, e0]).length = acc.length + 1 + 1 := by simp
        have s9 := m79.size
        refine ⟨m, ((A9, c9), acc ++ [x, e0], s4), by omega, ⟨rfl, rfl, by rw [hl]; rfl, trivial⟩, hloop, by dsimp only; omega, by dsimp only; omega, ?_, ?_, by omega, ?_, ?_⟩
        · exact p7.modN m79 (fun e => by have := own7' _ e.symm; omega) (fun e => by have := own7' _ e.symm; omega) (fun a ha hn e => by have := hlow a ha hn; have := own7' _ e.symm; omega)
        · exact Mod.trans k7 m79 fun b hb e => by have := own7' b e.symm; omega
        · dsimp only
          rw [hl]
          exact own9
        · intro y hy
          rcases List.mem_append.1 hy with hy | hy
          · exact oks y hy
          · rcases List.mem_cons.1 hy with hy | hy
            · rw [hy]; exact hx
            · rw [List.mem_singleton.1 hy]; exact ok_e0
      · replace h5 : ¬ x.tag = 5 := h5
        have et : tailOf x = [] := by unfold tailOf; rw [if_neg h5]
        rw [et] at hloop
        have hl : (acc ++ [x]).length = acc.length + 1 := by simp
        refine ⟨m, ((A7, c7), acc ++ [x], s4), by omega, ⟨rfl, rfl, by rw [hl]; rfl, trivial⟩, hloop, by dsimp only; omega, by dsimp only; omega, p7, k7, by omega, ?_, ?_⟩
        · dsimp only
          rw [hl]
          exact own7
        · intro y hy
          rcases List.mem_append.1 hy with hy | hy
          · exact oks y hy
          · rw [List.mem_singleton.1 hy]; exact hx
    · replace hz : ¬ s'.2 = 0 := hz
      refine Exists.intro s'.2 (And.intro (cellB pl.blk rfl) ?_)
      refine if_n (fun _ => ?_) (fun h => absurd h hz)
      refine draw_ (w := wl) ok (.q 0 (.q 1 (.q 2 (.q 3 (.q 4 (.q 5 .done)))))) [5] (New wl) (by kernel_rfl) (by kernel_rfl) (by kernel_rfl) (by kernel_rfl) (by kernel_rfl) (New.drew _) ?_
      refine Exists.intro s'.2 (And.intro (fun w'' hw => cellB (hw.blk pl.blk) rfl) ?_)
      exact herr hz
  · replace hge : ¬ (acc.length : Int) < n := hge
    refine Exists.intro s'.2 (And.intro (cellB pl.blk rfl) ?_)
    refine if_n (fun hz => ?_) (fun hz => ?_)
    · replace hz : ¬ s'.2 = 0 := hz
      refine draw_ (w := wl) ok (.q 0 (.q 1 (.q 2 (.q 3 (.q 4 (.q 5 .done)))))) [5] (New wl) (by kernel_rfl) (by kernel_rfl) (by kernel_rfl) (by kernel_rfl) (by kernel_rfl) (New.drew _) ?_
      refine Exists.intro s'.2 (And.intro (fun w'' hw => cellB (hw.blk pl.blk) rfl) ?_)
      exact herr hz
    replace hz : s'.2 = 0 := hz
    rw [← hloop, loopR_stop (fun h => hge h.1)] at hR
    unfold readEnd at hR
    rw [if_neg (show ¬ (acc, s').2.2 ≠ 0 from fun h => h hz)] at hR
    dsimp only at hR
    refine if_p (fun hbig => ?_) (fun hsm => ?_)
    · replace hbig : n < (acc.length : Int) := hbig
      rw [if_pos hbig] at hR
      exact fail s' 70 _ hR pl kl
    replace hsm : ¬ n < (acc.length : Int) := hsm
    rw [if_neg hsm] at hR
    obtain ⟨_, _, hpl⟩ := pl_own own rfl oks
    refine call_ (Check_ok Al acc.length cl acc wl hpl) ?_
    rintro e w5 ⟨rfl, n5⟩
    refine ⟨_, rfl, ?_⟩
    have k5 : Mod (fun b => b = g) w w5 := kl.trans n5 (fun _ _ e => False.elim e)
    rcases chk_cases acc with ⟨hc, ho⟩ | ⟨hc, ho⟩
    · rw [hc]
      rw [ho, if_neg (by decide)] at hR
      exact fail s' 70 _ hR (pl.new n5) k5
    · rw [hc]
      rw [ho, if_pos rfl] at hR
      refine ⟨_, acc, s'.1, 0, by rw [hR, ← hz], rfl, own_low (own_new n5 own) (by omega), oks, (pl.new n5).rd, k5⟩
end Go.Proofs.Ytbmlfbcanjobfaa.Pool

/- The package pool, walked: what the statements' own functions do. -/
import Derived.Test.YtbmlfbcanjobfaaPWalk10
namespace Go.Proofs.Ytbmlfbcanjobfaa.Pool
open Go Go.Proofs.Ytbmlfbcanjobfaa Go.Proofs.Ytbmlfbcanjobfaa.Eng Go.Proofs
set_option maxRecDepth 10000

theorem entC_len (l : List Ent) : ∀ cs ∈ l.map entC, cs.length = 5 := by
  intro cs h
  obtain ⟨x, _, rfl⟩ := List.mem_map.1 h
  rfl
/-- A pool that was made is one in memory. -/
theorem pl_own {w : World} {b : Nat} {A : Option Addr} {n c : Nat} {l : List Ent} (h : w.ownsRow b 67 5 (.slice A n c) l.length (l.map entC).flatten) (hn : n = l.length) (ho : ∀ x ∈ l, EntOk x) : n ≤ c ∧ c ≤ 9223372036854775807 ∧ Pl w A n l := by
  obtain ⟨_, _, he, h1, h2, row, _⟩ := own_slice h
  cases he
  exact ⟨h1, h2, hn, rows2_of_row (entC_len l) (by decide) row, ho, by omega⟩
theorem Put_res (A : Option Addr) (n q : Nat) (l : List Ent) (c : Con) (w : World) (h : Pl w A n l) (hc : ConOk c) :
    Calls Try.prog 10 #[.slice A n q, conV c] w fun e w' => ∃ A' c' a k er, put l c = (a, k, er) ∧ e = .returned (.tuple #[.slice A' a.length c', .int .i64 (k : Int), .int .i64 er]) ∧ a.length ≤ c' ∧ c' ≤ 9223372036854775807 ∧ Pl w' A' a.length a ∧ New w w' := by
  refine (Put_ok A n q l c w h hc).mono ?_
  rintro e w' ⟨v, rfl, own, nn, oks⟩
  rcases hp : put l c with ⟨a, k, er⟩
  rw [hp] at own oks
  obtain ⟨A', c', rfl, _⟩ := own_slice own
  obtain ⟨h1, h2, h3⟩ := pl_own own rfl oks
  exact ⟨A', c', a, k, er, rfl, rfl, h1, h2, h3, nn⟩
theorem SameEntries_ok (A B : Option Addr) (n c m d : Nat) (l : List Ent) (w : World) (ha : Pl w A n l) (hb : Pl w B m l) :
    Calls Try.prog 12 #[.slice A n c, .slice B m d] w fun e w' => e = .returned (.bool true) ∧ New w w' := by
  refine enter ok Try.func12 rfl rfl rfl ?_
  have hn := ha.len
  have hm := hb.len
  have htop := ha.top
  refine if_n (fun h => absurd (show (n : Int) = m by omega) h) (fun _ => ?_)
  refine den_loop (σ := Nat) (fun i => [(0, .slice A n c), (1, .slice B m d), (5, .int .i64 i)]) (fun k i wl => i ≤ n ∧ k = n - i ∧ New w wl) n 0 ⟨rfl, rfl, rfl, trivial⟩ ⟨Nat.zero_le _, rfl, New.refl _⟩ ?_
  rintro k i wl fr0 ⟨hi, rfl, nl⟩
  refine if_p (fun hlt => ?_) (fun hge => ?_)
  · replace hlt : (i : Int) < n := hlt
    obtain ⟨a, rfl, _, hca⟩ := ha.at_ (i := i) (by omega)
    obtain ⟨b, rfl, _, hcb⟩ := hb.at_ (i := i) (by omega)
    refine draw_ ok (.q 0 (.q 1 (.q 2 (.q 3 (.q 4 (.q 5 (.q 6 (.q 7 (.q 8 .done))))))))) [8] (New wl) (by kernel_rfl) (by kernel_rfl) (by kernel_rfl) (by kernel_rfl) (by kernel_rfl) (New.drew _) ?_
    refine And.intro (by omega) (And.intro hlt ?_)
    refine loadNC_row (vs := entC (at_ l i)) (fun j u hu w'' hw => by rw [Int.toNat_natCast]; exact hw.cell (nl.cell (hca j u hu))) rfl ?_
    refine And.intro (by omega) (And.intro (by omega) ?_)
    refine loadNC_row (vs := entC (at_ l i)) (fun j u hu w'' hw => by rw [Int.toNat_natCast]; exact hw.cell (nl.cell (hcb j u hu))) rfl ?_
    refine Exists.intro (.bool false) (And.intro (fun w'' _ => agg_cmp ok rfl rfl rfl (by kernel_rfl) (by kernel_rfl) rfl rfl rfl false (.inr ⟨rfl, (show false = !decide (at_ l i = at_ l i) by simp).trans (congrArg (!·) (entEq _ _))⟩) w'') ?_)
    refine ⟨n - (i + 1), i + 1, by omega, ⟨rfl, rfl, ?_, trivial⟩, by omega, rfl, nl.trans (New.drew _)⟩
    show Value.int .i64 (IntKind.i64.wrap _) = _
    rw [wrap_i64 (by omega) (by omega)]
    rfl
  · exact ⟨rfl, nl⟩
theorem own_ok (A : Option Addr) (n c : Nat) (l : List Ent) (w : World) (h : Pl w A n l) (hsz : n * 48 ≤ 140737488351232) :
    Calls Try.prog 13 #[.slice A n c] w fun e w' => ∃ A' c', e = .returned (.slice A' n c') ∧ Pl w' A' n l ∧ New w w' := by
  refine enter ok Try.func13 rfl rfl rfl ?_
  have hlen := h.len
  have hfl := ents_flen l
  have n1 := New.alloc w (.cells #[] 67)
  refine append_ ok rfl rfl rfl rfl (own_lit w [] 67 5 0 w.heap.size (Nat.le_refl _) rfl (by omega)) rfl rfl (row_of_rows2 (h.row.new n1)) (by rw [hfl, hlen]) ?_ (by decide) rfl (by show (0 + n) * 48 ≤ _; omega) (by omega) (by simp) ?_
  · intro u hu
    obtain ⟨cs, hcs, huc⟩ := List.mem_flatten.1 hu
    obtain ⟨x, _, rfl⟩ := List.mem_map.1 hcs
    exact entC_one x u huc
  intro A' c' w' hown hmod
  rw [Nat.zero_add] at hown
  have hown2 : w'.ownsRow w.heap.size 67 5 (.slice A' n c') l.length (l.map entC).flatten := by
    rw [← hlen]
    exact hown
  obtain ⟨_, _, hpl⟩ := pl_own hown2 hlen h.oks
  refine ⟨A', c', ?_, hpl, ?_⟩
  · show Ending.returned (.slice A' (0 + n) c') = _
    rw [Nat.zero_add]
  · exact Mod.trans n1 hmod fun i hi h => by
      simp only [Value.ownBlock, Option.some.injEq] at h
      omega
def cW : Con := ⟨10, 0, [97], [98], [40, 41, 86]⟩
theorem cW_ok : ConOk cW := ⟨by unfold I64; decide, by unfold I64; decide, by decide, by decide, by decide⟩
theorem putW : (put [e0] cW).1.length = 7 ∧ (put [e0] cW).2.1 = 6 ∧ (put [e0] cW).2.2 = 0 := by decide
theorem kept_con {l a : List Ent} {c : Con} {k : Nat} (h : Kept l c a k) : conC a k = c ∧ conE a k = 0 := by
  obtain ⟨e1, e2⟩ := conC_good (k : Int) h.ok
  rw [e1, e2, h.is, if_neg h.tag]
  exact ⟨rfl, rfl⟩
theorem Kept.con {l a : List Ent} {c : Con} {k : Nat} (h : Kept l c a k) : conC a k = c ∧ conE a k = 0 := kept_con h
theorem works_ok (w : World) : Calls Try.prog 9 #[] w fun e w' => e = .returned (.bool true) ∧ New w w' := by
  refine enter ok Try.func9 rfl rfl rfl ?_
  have n0 := New.alloc w (.cells entZ 67)
  have hb0 := heap_alloc_new w (.cells entZ 67)
  have hpl : Pl (w.alloc (.cells entZ 67)) (some ⟨w.heap.size, 0, none⟩) 1 [e0] := by
    refine ⟨rfl, ?_, fun x hx => by rw [List.mem_singleton.1 hx]; exact ok_e0, by decide⟩
    intro i cs hi
    cases i with
    | succ i => simp at hi
    | zero =>
      simp at hi
      subst hi
      refine ⟨rfl, _, rfl, ?_⟩
      intro k u hu
      exact rowB (vs := entC e0) hb0 k u hu
  refine call_ (Put_res _ 1 1 [e0] cW _ hpl cW_ok) ?_
  rintro e w1 ⟨A1, c1, a, k, er, hput, rfl, hac, hcm, hpa, n1⟩
  refine ⟨_, rfl, ?_⟩
  obtain ⟨h1, h2, h3⟩ := putW
  have hk := put_kept h3
  rw [hput] at h1 h2 h3 hk
  dsimp only at h1 h2 h3 hk
  obtain ⟨hc1, hc2⟩ := kept_con hk
  subst h2 h3
  have k1 := n0.trans n1
  refine call_ (Const_ok A1 a.length c1 a 6 w1 hpa) ?_
  rintro e w2 ⟨rfl, n2⟩
  refine ⟨_, rfl, ?_⟩
  rw [show conC a 6 = cW from hc1, show conE a 6 = 0 from hc2]
  have k2 := k1.trans n2
  refine And.intro rfl ?_
  refine storeNew (vs := conCs cW) (arr := conZ) rfl (conCs_one _) ?_
  intro w3 hb3 n3 s3
  have k3 := k2.trans n3
  refine if_p (fun _ => ?_) (fun h => absurd (show (a.length : Int) = 7 by omega) h)
  refine loadN_row (vs := conCs cW) (rowB hb3) rfl ?_
  refine con_eql (p := cW) (q := cW) rfl rfl rfl ?_
  rw [decide_eq_true rfl]
  exact ⟨rfl, k3⟩
end Go.Proofs.Ytbmlfbcanjobfaa.Pool

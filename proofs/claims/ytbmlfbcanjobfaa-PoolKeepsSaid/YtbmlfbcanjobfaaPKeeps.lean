/- The statement PoolKeeps, walked. -/
import Derived.Test.YtbmlfbcanjobfaaPWalk11
namespace Go.Proofs.Ytbmlfbcanjobfaa.Pool
open Go Go.Proofs.Ytbmlfbcanjobfaa Go.Proofs.Ytbmlfbcanjobfaa.Eng Go.Proofs
set_option maxRecDepth 10000

theorem PoolKeeps_ok (A : Option Addr) (n q : Nat) (l : List Ent) (c d : Con) (w : World) (h : Pl w A n l) (hc : ConOk c) (hd : ConOk d) :
    Calls Try.prog 3 #[.slice A n q, conV c, conV d] w fun e w' => e = .returned (.bool true) ∧ New w w' := by
  refine enter ok Try.func3 rfl rfl rfl ?_
  have n1 := New.alloc w (.cells (conCs c).toArray 24)
  have hb1 := heap_alloc_new w (.cells (conCs c).toArray 24)
  have n2 := New.alloc (w.alloc (.cells (conCs c).toArray 24)) (.cells (conCs d).toArray 24)
  have hb2 := heap_alloc_new (w.alloc (.cells (conCs c).toArray 24)) (.cells (conCs d).toArray 24)
  refine call_ (works_ok _) ?_
  rintro e w0 ⟨rfl, n3⟩
  refine ⟨_, rfl, ?_⟩
  have k0 := (n1.trans n2).trans n3
  have hbc := n3.blk (n2.blk hb1)
  have hbd := n3.blk hb2
  clear hb1 hb2 n3 n1 n2
  refine loadN_row (vs := conCs c) (rowB hbc) rfl ?_
  refine call_ (Put_res A n q l c w0 (h.new k0) hc) ?_
  rintro e w2 ⟨A2, c2, a, k, er, hput, rfl, hac, hcm, hpa, n2⟩
  refine ⟨_, rfl, ?_⟩
  have k2 := k0.trans n2
  refine if_n (fun hne => ?_) (fun h0 => ?_)
  · obtain ⟨h1, h2⟩ := put_err (l := l) (c := c) (by rw [hput]; exact hne)
    rw [hput] at h1 h2
    dsimp only at h1 h2
    subst h1 h2
    exact ⟨rfl, k2⟩
  replace h0 : er = 0 := h0
  subst h0
  have hk := put_kept (l := l) (c := c) (by rw [hput])
  rw [hput] at hk
  dsimp only at hk
  obtain ⟨hc1, hc2⟩ := kept_con hk
  refine call_ (Const_ok A2 a.length c2 a k w2 hpa) ?_
  rintro e w3 ⟨rfl, n3⟩
  refine ⟨_, rfl, ?_⟩
  rw [hc1, hc2]
  have m3 := n2.trans n3
  refine And.intro rfl ?_
  refine storeNew (vs := conCs c) (arr := conZ) rfl (conCs_one _) ?_
  intro w4 hb4 n4 s4
  have k4 := (k2.trans n3).trans n4
  have hbc4 := (m3.trans n4).blk hbc
  have hbd4 := (m3.trans n4).blk hbd
  refine loadN_row (vs := conCs d) (rowB hbd4) rfl ?_
  refine call_ (Put_res A2 a.length c2 a d w4 (hpa.new (n3.trans n4)) hd) ?_
  rintro e w6 ⟨A6, c6, b, m, er6, hput6, rfl, hac6, hcm6, hpb, n6⟩
  refine ⟨_, rfl, ?_⟩
  have k6 := k4.trans n6
  have hbc6 := n6.blk hbc4
  have hbd6 := n6.blk hbd4
  refine loadN_row (vs := conCs c) (rowB (n6.blk hb4)) rfl ?_
  refine loadN_row (vs := conCs c) (rowB hbc6) rfl ?_
  refine con_neq (p := c) (q := c) rfl rfl rfl ?_
  rw [decide_eq_true (show c = c from rfl)]
  obtain ⟨qq, hq⟩ := hk.pre
  have hlen := h.len
  have hal : a.length = l.length + qq.length := by rw [hq, List.length_append]
  refine if_p (fun h => absurd (show (a.length : Int) < n from h) (by omega)) (fun _ => ?_)
  refine And.intro (by omega) (And.intro (by omega) ?_)
  refine call_ (SameEntries_ok A2 A (n : Int).toNat c2 n q l w6 ⟨by omega, ?_, h.oks, by have := h.top; omega⟩ (h.new k6)) ?_
  · have := (hpa.new ((n3.trans n4).trans n6)).row.take l.length
    rw [← List.map_take, hq, List.take_left] at this
    exact this
  rintro e w10 ⟨rfl, n10⟩
  refine ⟨_, rfl, ?_⟩
  have k10 := k6.trans n10
  refine if_n (fun hne => ?_) (fun h0 => ?_)
  · obtain ⟨h1, h2⟩ := put_err (l := a) (c := d) (by rw [hput6]; exact hne)
    rw [hput6] at h1
    dsimp only at h1
    subst h1
    exact ⟨rfl, k10⟩
  replace h0 : er6 = 0 := h0
  subst h0
  have hk6 := put_kept (l := a) (c := d) (by rw [hput6])
  rw [hput6] at hk6
  dsimp only at hk6
  obtain ⟨hd1, hd2⟩ := kept_con hk6
  obtain ⟨hm, hagain⟩ := hk.stays hk6
  have hy : conC b k = c ∧ conE b k = 0 := by
    obtain ⟨e1, e2⟩ := conC_good (k : Int) hk6.ok
    rw [e1, e2, hm, if_neg hk.tag]
    exact ⟨rfl, rfl⟩
  refine call_ (Const_ok A6 b.length c6 b k w10 (hpb.new n10)) ?_
  rintro e w11 ⟨rfl, n11⟩
  refine ⟨_, rfl, ?_⟩
  rw [hy.1, hy.2]
  have k11 := k10.trans n11
  refine And.intro rfl ?_
  refine storeNew (vs := conCs c) (arr := conZ) rfl (conCs_one _) ?_
  intro w12 hb12 n12 s12
  have k12 := k11.trans n12
  refine call_ (Const_ok A6 b.length c6 b m w12 (hpb.new ((n10.trans n11).trans n12))) ?_
  rintro e w13 ⟨rfl, n13⟩
  refine ⟨_, rfl, ?_⟩
  rw [hd1, hd2]
  have k13 := k12.trans n13
  refine And.intro rfl ?_
  refine storeNew (vs := conCs d) (arr := conZ) rfl (conCs_one _) ?_
  intro w14 hb14 n14 s14
  have k14 := k13.trans n14
  have m14 := (((n10.trans n11).trans n12).trans n13).trans n14
  refine loadN_row (vs := conCs c) (rowB (m14.blk hbc6)) rfl ?_
  refine call_ (Put_res A6 b.length c6 b c w14 (hpb.new m14) hc) ?_
  rintro e w16 ⟨A16, c16, b', k', er16, hput16, rfl, hac16, hcm16, hpb16, n16⟩
  refine ⟨_, rfl, ?_⟩
  rw [hagain] at hput16
  cases hput16
  have k16 := k14.trans n16
  have m16 := m14.trans n16
  refine loadN_row (vs := conCs c) (rowB (((n13.trans n14).trans n16).blk hb12)) rfl ?_
  refine loadN_row (vs := conCs c) (rowB (m16.blk hbc6)) rfl ?_
  refine con_eql (p := c) (q := c) rfl rfl rfl ?_
  rw [decide_eq_true (show c = c from rfl)]
  refine loadN_row (vs := conCs d) (rowB (n16.blk hb14)) rfl ?_
  refine loadN_row (vs := conCs d) (rowB (m16.blk hbd6)) rfl ?_
  refine con_eql (p := d) (q := d) rfl rfl rfl ?_
  rw [decide_eq_true (show d = d from rfl)]
  refine if_p (fun _ => ?_) (fun h => absurd rfl h)
  refine call_ (SameEntries_ok A16 A6 b.length c16 b.length c6 b w16 hpb16 (hpb.new m16)) ?_
  rintro e w17 ⟨rfl, n17⟩
  exact ⟨_, rfl, rfl, k16.trans n17⟩
end Go.Proofs.Ytbmlfbcanjobfaa.Pool

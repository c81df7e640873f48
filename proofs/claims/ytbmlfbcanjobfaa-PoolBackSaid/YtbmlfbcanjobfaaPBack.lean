/- The statement PoolBack, walked. -/
import Derived.Test.YtbmlfbcanjobfaaPReadP
import Derived.Test.YtbmlfbcanjobfaaPWrite
import Derived.Test.YtbmlfbcanjobfaaBase
namespace Go.Proofs.Ytbmlfbcanjobfaa.Pool
open Go Go.Proofs.Ytbmlfbcanjobfaa Go.Proofs.Ytbmlfbcanjobfaa.Eng Go.Proofs Go.Proofs.Ytbmlfbcanjobfaa.Word
set_option maxRecDepth 10000

theorem pl_low {w : World} {A : Option Addr} {n : Nat} {l : List Ent} (h : Pl w A n l) : ∀ a, A = some a → l ≠ [] → a.block < w.heap.size := fun a ha hn => by
  cases l with
  | nil => exact absurd rfl hn
  | cons x r => exact (row_of_rows2 h.row).lt (by simp [entC]) ha
/-- What is written is read. -/
theorem read_enc {l : List Ent} (ho : okB l = true) (hn : ∀ x ∈ l, EntOk x) (q : List UInt8) : ∃ j, readR (poolF.enc l ++ q) 0 = (l, j, 0) := by
  have h := read_says (poolF.enc l ++ q) 0 (Nat.zero_le _)
  have hf := poolF.fwd l q ⟨ho, fun x hx => (hn x hx).n⟩
  rw [List.drop_zero] at h
  rcases h with ⟨v, j, e1, e2, _⟩ | ⟨e1, _⟩
  · change poolP _ = _ at hf
    rw [hf] at e1
    have e3 := (Prod.mk.inj (Option.some.inj e1)).1
    rw [← e3] at e2
    exact ⟨j, e2⟩
  · change poolP _ = _ at hf
    rw [hf] at e1
    cases e1
/-- What was read is written again. -/
theorem enc_read {bs : List UInt8} {l : List Ent} {j : Nat} (h : readR bs 0 = (l, j, 0)) : okB l = true ∧ poolF.enc l = bs.take j ∧ j ≤ bs.length := by
  have hs := read_says bs 0 (Nat.zero_le _)
  rw [h, List.drop_zero] at hs
  rcases hs with ⟨v, k, e1, e2, _, e4⟩ | ⟨_, e2, _⟩
  · cases e2
    obtain ⟨⟨o1, _⟩, o2⟩ := poolF.bwd bs l _ e1
    refine ⟨o1, ?_, e4⟩
    have : bs.take j ++ bs.drop j = poolF.enc l ++ bs.drop j := by rw [List.take_append_drop]; exact o2
    exact (List.append_cancel_right this).symm
  · exact absurd rfl e2
theorem row_take {w : World} {A : Option Addr} {bs : List UInt8} (h : Row w A (bvs bs)) (k : Nat) : Row w A (bvs (bs.take k)) := by
  intro j u hu
  refine h j u ?_
  unfold bvs at hu ⊢
  rw [List.map_take, List.getElem?_take] at hu
  split at hu
  · exact hu
  · cases hu
theorem enc_len {l : List Ent} (ho : okB l = true) (hn : ∀ x ∈ l, EntOk x) : (poolF.enc l).length ≤ 100000000 := by
  have hO := (okB_iff l).1 ho
  have h1 := ents_take_len hO hn l.length (Nat.le_refl _)
  rw [List.take_length] at h1
  have h2 := hO.2
  show (enc 2 (l.length : Int) ++ ents (l.drop 1)).length ≤ _
  rw [ents_all hO.1, List.length_append, enc_length]
  omega
theorem PoolBack_ok (A : Option Addr) (n q : Nat) (l : List Ent) (B : Option Addr) (m c : Nat) (bs : List UInt8) (w : World) (hl : Pl w A n l) (hm : m = bs.length) (hc : m ≤ c) (hcm : c ≤ 9223372036854775807) (hb : Row w B (bvs bs)) :
    Calls Try.prog 5 #[.slice A n q, .slice B m c] w fun e w' => e = .returned (.bool true) ∧ New w w' := by
  refine enter ok Try.func5 rfl rfl rfl ?_
  have hW : Calls Try.prog 9 #[] w fun e w' => ∃ b, b = true ∧ e = .returned (.bool b) ∧ New w w' := (works_ok w).mono fun e w' h => ⟨true, rfl, h⟩
  refine call_ hW ?_
  rintro e w0 ⟨b0, hb0, rfl, n0⟩
  refine ⟨_, rfl, ?_⟩
  refine if_no (show (!b0) = false by rw [hb0]; rfl) ?_
  refine skip_ (thenF_ ?_)
  refine seq_cut (σ := List UInt8) (fun ds => [(0, .slice A n q), (1, .slice B ds.length c)]) (fun ds w' => w' = w0 ∧ ds.length ≤ 5000 ∧ ds.length ≤ c ∧ Row w0 B (bvs ds)) ?_ ?_
  rotate_left
  · intro K hK
    refine if_p (fun hbig => ?_) (fun hsm => ?_)
    · replace hbig : (5000 : Int) < (m : Int) := hbig
      have hlt : (bs.take 5000).length = 5000 := by rw [List.length_take]; omega
      refine And.intro (by omega) (And.intro (show (5000 : Int) ≤ (c : Int) by omega) ?_)
      refine hK (bs.take 5000) _ _ ⟨rfl, by rw [hlt]; rfl, trivial⟩ ⟨rfl, by omega, by omega, (row_take (hb.new n0) _)⟩
    · replace hsm : ¬ (5000 : Int) < (m : Int) := hsm
      refine hK bs _ _ ⟨rfl, by rw [← hm]; rfl, trivial⟩ ⟨rfl, by omega, by omega, hb.new n0⟩
  rintro ds w0' fr0 ⟨rfl, hd5, hdc, hdr⟩
  refine seq_cut (σ := Unit) (fun _ => [(0, .slice A n q), (1, .slice B ds.length c), (5, .pointer (some ⟨w0'.heap.size, 0, none⟩))]) (fun _ w1 => Wr w1 w0'.heap.size w0'.heap.size (.slice none 0 0) [] ∧ New w0' w1 ∧ w1.heap.size = w0'.heap.size + 1) ?_ ?_
  rotate_left
  · intro K hK
    refine call_ (Make_ok w0') ?_
    rintro e w1 ⟨rfl, hmade⟩
    refine ⟨_, rfl, ?_⟩
    exact hK () _ _ ⟨rfl, rfl, rfl, trivial⟩ hmade
  rintro _ w1 fr1 ⟨wr1, n1, z1⟩
  have k1 := n0.trans n1
  refine seq_cut (σ := Unit) (fun _ => [(0, .slice A n q), (1, .slice B ds.length c)]) (fun _ w' => New w0' w') ?_ ?_
  rotate_left
  · intro K hK
    have hdis : ∀ a, A = some a → l ≠ [] → ¬ WS w0'.heap.size (Value.slice none 0 0) a.block := by
      rintro a ha hn (e | e)
      · have := pl_low (hl.new n0) a ha hn; omega
      · simp [Value.ownBlock] at e
    refine call_ (Write_ok w0'.heap.size w0'.heap.size (.slice none 0 0) [] A n q l w1 wr1 (hl.new k1) hdis (by simp) n1.size) ?_
    rintro e w2 ⟨rfl, v2, k2⟩
    refine ⟨_, rfl, ?_⟩
    have m2 : New w0' w2 := Mod.trans n1 k2.mod fun b hb e => by
      rcases e with e | e
      · omega
      · simp [Value.ownBlock] at e
    rcases chk_cases l with ⟨hk, ho⟩ | ⟨hk, ho⟩
    · rw [hk]
      exact hK () _ _ ⟨rfl, rfl, trivial⟩ m2
    rw [hk]
    rw [ho, if_pos rfl, List.nil_append] at k2
    have hel := enc_len ho hl.oks
    refine call_ (All_ok _ _ v2 (poolF.enc l) w2 k2.wr (by omega)) ?_
    rintro e w3 ⟨u, rfl, own3, n3⟩
    obtain ⟨A3, c3, rfl, hc3, hcm3, _, _⟩ := own_slice own3
    refine ⟨_, rfl, ?_⟩
    have n4 := New.alloc w3 (.cells #[.int .u8 7] 5)
    have row4 : Row (w3.alloc (.cells #[.int .u8 7] 5)) (some ⟨w3.heap.size, 0, none⟩) (bvs [7]) := row_alloc w3 (bvs [7]) _ _
    refine append_ ok rfl rfl rfl rfl (own_new n4 own3) rfl rfl row4 rfl (bvs_one [7]) (by decide) rfl (by show ((poolF.enc l).length + 1) * 1 ≤ _; omega) (by omega) (Nat.le_trans n3.size n4.size) ?_
    intro A5 c5 w5 own5 mod5
    have n5 : New w2 w5 := Mod.trans (n3.trans n4) mod5 fun b hb e => by
      have := (own3.lt b e.symm).1
      omega
    rw [← bvs_append] at own5
    have hlen5 : (poolF.enc l ++ [7]).length = (poolF.enc l).length + 1 := by simp
    rw [← hlen5] at own5
    obtain ⟨_, _, he5, hc5, hcm5, row5, _⟩ := own_slice own5
    cases he5
    have hR := Read_okN A5 c5 (poolF.enc l ++ [7]) w5 row5 hc5 hcm5
    rw [hlen5] at hR
    refine call_ hR ?_
    rintro e w6 ⟨rfl, rd6, n6, z6⟩
    refine ⟨_, rfl, ?_⟩
    refine call_ (Read_ok w5.heap.size A5 c5 (poolF.enc l ++ [7]) 0 w6 rd6 (by omega)) ?_
    rintro e w7 ⟨v7, l7, j7, er7, hr7, rfl, own7, oks7, rd7, mod7⟩
    obtain ⟨j, hj⟩ := read_enc ho hl.oks [7]
    rw [hj] at hr7
    cases hr7
    obtain ⟨A7, c7, rfl, _⟩ := own_slice own7
    refine ⟨_, rfl, ?_⟩
    have n7 : New w0' w7 := Mod.trans ((m2.trans n5).trans n6) mod7 fun b hb e => by have := n5.size; have := m2.size; omega
    obtain ⟨_, _, hpl7⟩ := pl_own own7 rfl oks7
    refine call_ (SameEntries_ok A7 A l.length c7 n q l w7 hpl7 ((hl.new n0).new n7)) ?_
    rintro e w8 ⟨rfl, n8⟩
    refine ⟨_, rfl, ?_⟩
    exact hK () _ _ ⟨rfl, rfl, trivial⟩ (n7.trans n8)
  rintro _ w2 fr2 m2
  refine call_ (Read_okN B c ds w2 (hdr.new m2) hdc hcm) ?_
  rintro e w3 ⟨rfl, rd3, n3, z3⟩
  refine ⟨_, rfl, ?_⟩
  refine call_ (Read_ok w2.heap.size B c ds 0 w3 rd3 (by omega)) ?_
  rintro e w4 ⟨v4, l4, j4, er4, hr4, rfl, own4, oks4, rd4, mod4⟩
  obtain ⟨A4, c4, rfl, _⟩ := own_slice own4
  refine ⟨_, rfl, ?_⟩
  have k4 : New w w4 := Mod.trans ((n0.trans m2).trans n3) mod4 fun b hb e => by have := n0.size; have := m2.size; omega
  refine if_n (fun hne => ?_) (fun h0 => ?_)
  · have h1 := readR_err (bs := ds) (i := 0) (by rw [hr4]; exact hne)
    rw [hr4] at h1
    dsimp only at h1
    subst h1
    exact ⟨rfl, k4⟩
  replace h0 : er4 = 0 := h0
  subst h0
  obtain ⟨ho4, henc, hj⟩ := enc_read hr4
  obtain ⟨_, _, hpl4⟩ := pl_own own4 rfl oks4
  refine call_ (Make_ok w4) ?_
  rintro e w5 ⟨rfl, wr5, n5, z5⟩
  refine ⟨_, rfl, ?_⟩
  have hdis : ∀ a, A4 = some a → l4 ≠ [] → ¬ WS w4.heap.size (Value.slice none 0 0) a.block := by
    rintro a ha hn (e | e)
    · have := pl_low hpl4 a ha hn; omega
    · simp [Value.ownBlock] at e
  refine call_ (Write_ok w4.heap.size w4.heap.size (.slice none 0 0) [] A4 l4.length c4 l4 w5 wr5 (hpl4.new n5) hdis (by simp) n5.size) ?_
  rintro e w6 ⟨rfl, v6, k6⟩
  refine ⟨_, rfl, ?_⟩
  have m6 : New w4 w6 := Mod.trans n5 k6.mod fun b hb e => by
    rcases e with e | e
    · omega
    · simp [Value.ownBlock] at e
  rw [chk_good ((okB_iff l4).1 ho4)]
  rw [ho4, if_pos rfl, List.nil_append, henc] at k6
  have htl : (ds.take j4).length = j4 := by rw [List.length_take]; omega
  refine call_ (All_ok _ _ v6 (ds.take j4) w6 k6.wr (by omega)) ?_
  rintro e w7 ⟨u, rfl, own7, n7⟩
  obtain ⟨A7, c7, rfl, _, _, row7, _⟩ := own_slice own7
  refine ⟨_, rfl, ?_⟩
  refine call_ (At_ok w2.heap.size B c ds j4 w7 (rd4.new (m6.trans n7))) ?_
  rintro e w8 ⟨rfl, rfl⟩
  refine ⟨_, rfl, ?_⟩
  refine And.intro (by omega) (And.intro (by omega) ?_)
  have hdr8 : Row w8 B (bvs (ds.take j4)) := row_take ((rd4.row.new m6).new n7) j4
  refine call_ (Base.SameBytes_ok A7 B (ds.take j4).length c7 (j4 : Int).toNat c (ds.take j4) (ds.take j4) w8 rfl (by omega) row7 hdr8) ?_
  rintro e w9 ⟨rfl, rfl⟩
  rw [decide_eq_true (show ds.take j4 = ds.take j4 from rfl)]
  exact ⟨_, rfl, rfl, (k4.trans m6).trans n7⟩
end Go.Proofs.Ytbmlfbcanjobfaa.Pool

/- The statement WordWrites, walked. -/
import Derived.Test.YtgefmbkiljhjlaaWRef5
import Derived.Test.YtgefmbkiljhjlaaMem3
import Derived.Test.YtgefmbkiljhjlaaWOpen
namespace Go.Proofs.Ytgefmbkiljhjlaa.Word
open Go Go.Proofs.Ytgefmbkiljhjlaa Go.Proofs.Ytgefmbkiljhjlaa.Eng Go.Proofs
set_option maxRecDepth 10000

/-- The writer and the document's bytes, side by side. -/
structure Both (w wl : World) (g : Nat) (v : Value) (A : Option Addr) (c : Nat) (bs : List UInt8) : Prop where
  wr : Wr wl w.heap.size g v bs
  row : Row wl A (bvs bs)
  cap : bs.length ≤ c
  top : c ≤ 9223372036854775807
  sep : ∀ a, A = some a → a.block < wl.heap.size ∧ ¬ WS g v a.block
  new : New w wl
  gew : w.heap.size ≤ g
theorem Both.keep {w wl wm : World} {g : Nat} {v : Value} {A : Option Addr} {c : Nat} {bs : List UInt8} (h : Both w wl g v A c bs) (n : New wl wm) : Both w wm g v A c bs :=
  ⟨h.wr.new n, h.row.new n, h.cap, h.top, fun a ha => ⟨Nat.lt_of_lt_of_le (h.sep a ha).1 n.size, (h.sep a ha).2⟩, h.new.trans n, h.gew⟩
/-- What the writer may turn is new. -/
theorem Both.newS {w wl wm : World} {g : Nat} {v : Value} {A : Option Addr} {c : Nat} {bs : List UInt8} (h : Both w wl g v A c bs) (m : Mod (WS g v) wl wm) : New w wm :=
  Mod.trans h.new m fun b hb e => by
    rcases e with e | e
    · have := h.gew; omega
    · have := (h.wr.own.lt b e.symm).1; omega
theorem ivs_one (zs : List Int) : ∀ u ∈ ivs zs, u.oneCell' = true := by
  intro u hu
  obtain ⟨z, _, rfl⟩ := List.mem_map.1 hu
  rfl

theorem allBs_len (bs : List UInt8) (k : Int) (sign : Bool) (zs : List Int) : (allBs bs k sign zs).length ≤ bs.length + 8 * zs.length := by
  unfold allBs
  split
  · rename_i h
    have hw : wide k = true := by
      unfold good at h
      simp only [Bool.and_eq_true] at h
      exact h.1
    have hk := wide_cases hw
    rw [List.length_append, flat_length]
    have := Nat.mul_le_mul_right zs.length (show k.toNat ≤ 8 by omega)
    omega
  · omega
theorem WordWrites_ok (D : Option Addr) (q qc : Nat) (acts : List ActV) (w : World) (hq : q = acts.length) (hd : Rows2 w D 6 (acts.map ActV.cells)) (hok : ∀ a ∈ acts, ActOk w a) :
    Calls Try.prog 6 #[.slice D q qc] w fun e w' => e = .returned (.bool true) ∧ New w w' := by
  refine enter ok Try.func6 rfl rfl rfl ?_
  refine call_ (Make_ok w) ?_
  rintro e w0 ⟨rfl, wr0, n0, z0⟩
  refine ⟨_, rfl, ?_⟩
  generalize hg : w.heap.size = g at wr0 z0
  have a0 := New.alloc w0 (.cells #[] 5)
  have b0 : Both w (w0.alloc (.cells #[] 5)) g (.slice none 0 0) (some ⟨w0.heap.size, 0, none⟩) 0 [] :=
    ⟨hg ▸ wr0.new a0, Row.nil _ _, Nat.le_refl _, by omega, fun a ha => by cases ha; exact ⟨by simp, by rintro (e | e) <;> simp [Value.ownBlock] at e; omega⟩, n0.trans a0, by omega⟩
  refine ops_cut (σ := Unit) (fun _ => [(0, .slice D q qc), (3, .pointer (some ⟨g, 0, none⟩))]) (fun _ w' => w' = w0) ?_ (fun K hK => hK () _ _ ⟨rfl, rfl, trivial⟩ rfl)
  rintro s w0 fr0 rfl
  refine thenF_ ?_
  refine seq_cut (σ := Unit) (fun _ => [(0, .slice D q qc), (3, .pointer (some ⟨g, 0, none⟩))]) (fun _ w' => w' = w0) ?_ (fun K hK => hK () _ _ ⟨rfl, rfl, trivial⟩ rfl)
  rintro s w0 fr1 rfl
  refine seq_cut (σ := Unit) (fun _ => [(0, .slice D q qc), (3, .pointer (some ⟨g, 0, none⟩)), (4, .slice (some ⟨w0.heap.size, 0, none⟩) 0 0)]) (fun _ w' => w' = w0.alloc (.cells #[] 5)) ?_ (fun K hK => hK () _ _ ⟨rfl, rfl, rfl, trivial⟩ rfl)
  rintro s w1 fr2 rfl
  refine seq_cut (σ := Value × Option Addr × Nat × List UInt8) (fun s => [(3, .pointer (some ⟨g, 0, none⟩)), (4, .slice s.2.1 s.2.2.2.length s.2.2.1)]) (fun s wl => Both w wl g s.1 s.2.1 s.2.2.1 s.2.2.2 ∧ s.2.2.2.length ≤ 50000) ?_ ?_
  · rintro ⟨v, A, c, bs⟩ wl fr3 ⟨hb, hl⟩
    dsimp only at hb hl
    refine call_ (All_ok _ _ _ bs wl hb.wr (by omega)) ?_
    rintro e w2 ⟨u, rfl, own2, n2⟩
    obtain ⟨A2, c2, rfl, hc2, ht2, row2, hA2⟩ := own_slice own2
    refine ⟨_, rfl, ?_⟩
    have hb2 := hb.keep n2
    have hgl := hb.wr.lt
    have hs2 := n2.size
    refine call_ (Base.SameBytes_ok A2 A bs.length c2 bs.length c bs bs w2 rfl rfl row2 hb2.row) ?_
    rintro e w2 ⟨rfl, rfl⟩
    refine ⟨_, rfl, ?_⟩
    refine den_loop (σ := Nat) (fun x => [(3, .pointer (some ⟨g, 0, none⟩)), (4, .slice A bs.length c), (12, .slice A2 bs.length c2), (13, .bool true), (14, .int .i64 x)])
      (fun m x wx => x ≤ bs.length ∧ m = bs.length - x ∧ (∃ ys : List UInt8, ys.length = bs.length ∧ wx.ownsRow wl.heap.size 5 1 (.slice A2 bs.length c2) bs.length (bvs ys)) ∧ Mod (fun b => wl.heap.size ≤ b) w2 wx) bs.length 0 ⟨rfl, rfl, rfl, by show Value.bool (decide (_ = _)) = _; rw [decide_eq_true rfl], rfl, trivial⟩
      ⟨Nat.zero_le _, rfl, ⟨_, rfl, own2⟩, Mod.refl _ _⟩ ?_
    rintro m x wx fr2 ⟨hx, rfl, ⟨ys, hys, ownx⟩, mx⟩
    refine if_p (fun hxl => ?_) (fun hxg => ?_)
    · obtain ⟨gq, cq, hsl4, hgq, _⟩ := own_pos ownx (by omega)
      obtain ⟨rfl, rfl⟩ : A2 = some ⟨gq, 0, none⟩ ∧ c2 = cq := by
        injection hsl4 with e1 e2 e3
        exact ⟨e1, e3⟩
      obtain ⟨hcx, hfx, hst⟩ := own_store ownx x (by rw [bvs_length]; omega)
      have ex : (⟨gq, 0, none⟩ : Addr).add ((x : Int).toNat * 1) = ⟨gq, x, none⟩ := by rw [Nat.mul_one, Int.toNat_natCast, ad1]
      refine And.intro (by omega) (And.intro hxl (And.intro ⟨_, by rw [ex]; exact hcx⟩ (And.intro (by rw [ex]; exact hfx) ?_)))
      obtain ⟨own7, mod7⟩ := hst (bv 202)
      rw [bvs_set] at own7
      refine ⟨bs.length - (x + 1), x + 1, by omega, ⟨rfl, rfl, rfl, rfl, ?_, trivial⟩, by omega, rfl, ⟨ys.set x 202, ?_, ?_⟩, ?_⟩
      · show Value.int .i64 (IntKind.i64.wrap _) = _
        rw [wrap_i64 (by omega) (by omega)]
        rfl
      · rw [List.length_set]; exact hys
      · rw [← ex] at own7
        exact own7
      · rw [← ex] at mod7
        have hb7 : ((⟨gq, 0, none⟩ : Addr).add ((x : Int).toNat * 1)).block = gq := by rw [ex]
        exact Mod.trans mx mod7 fun b _ e => by omega
    · have wrx := hb2.wr.mod mx (by omega) (fun b hb' e => by have := (hb.wr.own.lt b hb').2; omega)
      have rowx := row_mod2 mx hb2.row (fun _ a ha e => by have := (hb.sep a ha).1; omega)
      refine call_ (All_ok _ _ _ bs wx wrx (by omega)) ?_
      rintro e w5 ⟨u, rfl, own5, n5⟩
      obtain ⟨A5, c5, rfl, _, _, row5, _⟩ := own_slice own5
      refine ⟨_, rfl, ?_⟩
      refine call_ (Base.SameBytes_ok A5 A bs.length c5 bs.length c bs bs w5 rfl rfl row5 (rowx.new n5)) ?_
      rintro e w5 ⟨rfl, rfl⟩
      refine ⟨_, rfl, ?_⟩
      refine if_yes (decide_eq_true rfl) ?_
      refine call_ (works_ok w5) ?_
      rintro e w6 ⟨b, rfl, rfl, n6⟩
      refine ⟨_, rfl, rfl, ?_⟩
      have hsw := hb.new.size
      exact New.trans (New.trans (Mod.trans (hb.new.trans n2) mx (fun b hb' e => by omega)) n5) n6
  intro K hK
  refine den_loop (σ := Nat × Value × Option Addr × Nat × List UInt8) (fun s => [(0, .slice D q qc), (3, .pointer (some ⟨g, 0, none⟩)), (4, .slice s.2.2.1 s.2.2.2.2.length s.2.2.2.1), (5, .int .i64 s.1)])
    (fun m s wl => s.1 ≤ q ∧ s.1 ≤ 100 ∧ m = 100 - s.1 ∧ Both w wl g s.2.1 s.2.2.1 s.2.2.2.1 s.2.2.2.2 ∧ s.2.2.2.2.length ≤ s.1 * 500) 100 (0, .slice none 0 0, some ⟨w0.heap.size, 0, none⟩, 0, []) ⟨rfl, rfl, rfl, rfl, trivial⟩
    ⟨Nat.zero_le _, Nat.zero_le _, rfl, b0, Nat.zero_le _⟩ ?_
  rintro m ⟨i, v, A, c, bs⟩ wl fr3 ⟨hi, hi100, rfl, hb, hl⟩
  dsimp only at hi hi100 hb hl
  refine if_p (fun hlt => ?_) (fun hge => ?_)
  rotate_left
  · exact hK (v, A, c, bs) _ _ ⟨rfl, rfl, trivial⟩ ⟨hb, by show bs.length ≤ _; omega⟩
  refine if_p (fun hlt2 => ?_) (fun hge2 => ?_)
  rotate_left
  · exact hK (v, A, c, bs) _ _ ⟨rfl, rfl, trivial⟩ ⟨hb, by show bs.length ≤ _; omega⟩
  replace hlt : (i : Int) < q := hlt
  replace hlt2 : (i : Int) < 100 := hlt2
  have hi' : i < acts.length := by omega
  obtain ⟨a, rfl, hcells⟩ := hd.at_ i (by simpa using hi')
  have hcell' : ∀ k u, (acts[i].cells)[k]? = some u → wl.cell? ((a.add (i * 6)).add k) = some u := fun k u hu => hb.new.cell (hcells k u (by simpa using hu))
  refine skip_ (thenF_ (seq_ (block_ (seq_ (region_ ?_)))))
  refine ops_cut (σ := World × Nat) (fun s => [(0, .slice (some a) q qc), (3, .pointer (some ⟨g, 0, none⟩)), (4, .slice A bs.length c), (5, .int .i64 i), (6, .pointer (some ⟨wl.heap.size, 0, none⟩))])
    (fun s w' => New wl w' ∧ w'.heap[wl.heap.size]? = some (.cells (acts[i].cells).toArray 45 (0, 0))) ?_ ?_
  rotate_left
  · intro K hK
    refine And.intro (by omega) (And.intro hlt (some_at rfl ?_))
    refine loadN_row (vs := acts[i].cells) (by rw [Int.toNat_natCast]; exact hcell') rfl ?_
    refine And.intro rfl ?_
    refine storeN_all (vs := acts[i].cells) (arr := #[.int .i64 0, .int .i64 0, .int .i64 0, .int .i64 0, .slice none 0 0, .slice none 0 0]) (t := 45) (heap_alloc_new wl _) rfl (by intro v hv; simp [ActV.cells] at hv; rcases hv with rfl | rfl | rfl | rfl | rfl | rfl <;> rfl) ?_
    intro w' hb mb hs
    refine hK (w', 0) _ _ ⟨rfl, rfl, rfl, rfl, rfl, trivial⟩ ⟨Mod.trans (New.alloc wl _) mb (fun b hb e => by omega), hb⟩
  rintro s w3 fr4 ⟨n3, hblk⟩
  have hact := hok acts[i] (List.getElem_mem hi')
  have hhl := (Array.getElem?_eq_some_iff.1 hblk).1
  generalize acts[i] = act at hblk hact
  have hgl := hb.wr.lt
  have hvl := fun b hb' => (hb.wr.own.lt b hb').2
  have notS : ¬ WS g v wl.heap.size := by
    rintro (e | e)
    · omega
    · have := hvl _ e.symm; omega
  have hb3 := hb.keep n3
  have cell : ∀ {w' : World} {S : Nat → Prop}, Mod S w3 w' → ¬ S wl.heap.size → ∀ j, w'.cell? ⟨wl.heap.size, j, none⟩ = (act.cells)[j]? := fun m hn j => by
    rw [cell_of_row _ _ j _ _ _ (m.blk hblk hn)]
    simp
  have cell0 := cell (Mod.refl (fun _ => False) w3) (fun h => h)
  refine thenF_ ?_
  refine seq_cut (σ := Unit) (fun _ => [(0, .slice (some a) q qc), (3, .pointer (some ⟨g, 0, none⟩)), (4, .slice A bs.length c), (5, .int .i64 i), (6, .pointer (some ⟨wl.heap.size, 0, none⟩))])
    (fun _ w' => w' = w3 ∧ act.ln ≤ 60 ∧ act.bn ≤ 500) ?_ ?_
  rotate_left
  · intro K hK
    refine Exists.intro act.L (Exists.intro act.ln (Exists.intro act.lc ?_))
    refine And.intro (by rw [ad1]; exact cell0 4) ?_
    refine if_p (fun h60 => ?_) (fun h60 => ?_)
    · refine ⟨100 - (i + 1), (i + 1, v, A, c, bs), by omega, ⟨rfl, rfl, rfl, ?_, trivial⟩, by show i + 1 ≤ q; omega, by show i + 1 ≤ 100; omega, rfl, hb3, by show bs.length ≤ (i + 1) * 500; omega⟩
      show Value.int .i64 (IntKind.i64.wrap _) = _
      rw [wrap_i64 (by omega) (by omega)]
      rfl
    refine Exists.intro act.B (Exists.intro act.bn (Exists.intro act.bc ?_))
    refine And.intro (by rw [ad1]; exact cell0 5) ?_
    refine if_p (fun h500 => ?_) (fun h500 => ?_)
    · refine ⟨100 - (i + 1), (i + 1, v, A, c, bs), by omega, ⟨rfl, rfl, rfl, ?_, trivial⟩, by show i + 1 ≤ q; omega, by show i + 1 ≤ 100; omega, rfl, hb3, by show bs.length ≤ (i + 1) * 500; omega⟩
      show Value.int .i64 (IntKind.i64.wrap _) = _
      rw [wrap_i64 (by omega) (by omega)]
      rfl
    exact hK () _ _ ⟨rfl, rfl, rfl, rfl, rfl, trivial⟩ ⟨rfl, by omega, by omega⟩
  rintro s w3 fr5 ⟨rfl, h60, h500⟩
  have hl48 : bs.length ≤ 50000 := by omega
  have hz48 : act.zs.length ≤ 60 := by have := hact.ln; omega
  have hy48 : act.bs.length ≤ 500 := by have := hact.bn; omega
  have hbase := hb3.new.size
  have hrowA : ∀ {w5 : World}, Mod (WS g v) w3 w5 → Row w5 A (bvs bs) := fun m => row_mod2 m hb3.row (fun _ a ha => (hb3.sep a ha).2)
  have fin : ∀ {w4 w5 w6 : World} {v' : Value} {A6 : Option Addr} {c6 : Nat} {bs' : List UInt8}, Mod (WS g v) w3 w5 → Wr w5 w.heap.size g v' bs' → stayed w4 v v' → w3.heap.size ≤ w4.heap.size → New w5 w6 → Row w6 A6 (bvs bs') → bs'.length ≤ c6 → c6 ≤ 9223372036854775807 →
      (∀ a, A6 = some a → A = some a ∨ w5.heap.size ≤ a.block ∧ a.block < w6.heap.size) → Both w w6 g v' A6 c6 bs' := by
    intro w4 w5 w6 v' A6 c6 bs' m35 wr5 st5 h34 n6 row6 hc6 ht6 hA6
    have s35 := m35.size
    have s56 := n6.size
    have hl5 := wr5.lt
    refine ⟨wr5.new n6, row6, hc6, ht6, fun a ha => ?_, (hb3.newS m35).trans n6, hb.gew⟩
    rcases hA6 a ha with h1 | ⟨h1, h2⟩
    · have h3 := (hb.sep a h1).1
      have h4 := (hb.sep a h1).2
      refine ⟨by have := n3.size; omega, ?_⟩
      rintro (e | e)
      · exact h4 (.inl e)
      · rcases st5 _ e.symm with h5 | h5
        · exact h4 (.inr h5.symm)
        · have := n3.size; omega
    · refine ⟨h2, ?_⟩
      rintro (e | e)
      · omega
      · have := (wr5.own.lt _ e.symm).2; omega
  refine seq_cut (σ := Unit) (fun _ => [(0, .slice (some a) q qc), (3, .pointer (some ⟨g, 0, none⟩)), (4, .slice A bs.length c), (5, .int .i64 i), (6, .pointer (some ⟨wl.heap.size, 0, none⟩)), (7, .int .i64 0), (8, .int .i64 0)]) (fun _ w' => w' = w3) ?_ (fun K hK => hK () _ _ ⟨rfl, rfl, rfl, rfl, rfl, rfl, rfl, trivial⟩ rfl)
  rintro s w3 fr6 rfl
  refine seq_cut (σ := Value × Option Addr × Nat × List UInt8 × Int) (fun s => [(0, .slice (some a) q qc), (3, .pointer (some ⟨g, 0, none⟩)), (4, .slice s.2.1 s.2.2.2.1.length s.2.2.1), (5, .int .i64 i), (7, .int .i64 s.2.2.2.2), (8, .int .i64 s.2.2.2.2)])
    (fun s w6 => Both w w6 g s.1 s.2.1 s.2.2.1 s.2.2.2.1 ∧ s.2.2.2.1.length ≤ bs.length + 500) ?_ ?_
  · rintro ⟨v', A', c', bs', er⟩ w6 fr7 ⟨hb6, hl6⟩
    dsimp only at hb6 hl6
    refine if_n (fun hne => absurd rfl hne) (fun _ => ?_)
    refine call_ (Len_ok _ _ _ bs' w6 hb6.wr) ?_
    rintro e w7 ⟨rfl, rfl⟩
    refine ⟨_, rfl, ?_⟩
    refine if_n (fun hne => absurd rfl hne) (fun _ => ?_)
    refine ⟨100 - (i + 1), (i + 1, v', A', c', bs'), by omega, ⟨rfl, rfl, rfl, ?_, trivial⟩, by show i + 1 ≤ q; omega, by show i + 1 ≤ 100; omega, rfl, hb6, by show bs'.length ≤ (i + 1) * 500; omega⟩
    show Value.int .i64 (IntKind.i64.wrap _) = _
    rw [wrap_i64 (by omega) (by omega)]
    rfl
  intro K hK
  refine Exists.intro act.d ?_
  refine And.intro (by rw [ad1]; exact cell0 0) ?_
  refine call_ (Base.Among_ok act.d 5 w3 (by omega)) ?_
  rintro e w3 ⟨rfl, rfl⟩
  refine ⟨_, rfl, ?_⟩
  generalize Base.among act.d 5 = j
  refine if_p (fun h0 => ?_) (fun h0 => ?_)
  · refine if_yes (decide_eq_true h0) ?_
    refine draw_ ok (.q 0 (.q 1 (.q 2 (.q 3 (.q 4 (.e 5 (.e 6 (.q 7 .done)))))))) [7] (Mod (WS g v) w3) (by kernel_rfl) (by kernel_rfl) (by kernel_rfl) (by kernel_rfl) (by kernel_rfl) (New.drew _).mod ?_
    refine Exists.intro act.k ?_
    refine And.intro (fun w'' hw => by rw [ad1]; exact cell hw notS 1) ?_
    refine Exists.intro act.L (Exists.intro act.ln (Exists.intro act.lc ?_))
    refine And.intro (fun w'' hw => by rw [ad1]; exact cell hw notS 4) ?_
    have hL := hact.lr.new hb3.new
    refine call_ (Ints_ok act.L act.ln act.lc act.zs w3.drew hact.ln (hL.new (New.drew _)) (by omega)) ?_
    rintro e w4 ⟨u, rfl, own4, n4⟩
    obtain ⟨A4, c4, rfl, _, _, row4, hA4⟩ := own_slice own4
    refine ⟨_, rfl, ?_⟩
    have n34 := (New.drew w3).trans n4
    have s34 := n34.size
    refine Exists.intro (Mod (WS g v) w3) (And.intro (fun _ h => h) (And.intro n34.mod ?_))
    refine call_ (WU_ok w.heap.size g v bs act.k A4 act.ln c4 act.zs w4 (hb3.wr.new n34) row4 hact.ln ?_ (by omega) (by omega)) ?_
    · intro a ha _
      have h1 : w3.heap.size ≤ a.block := by have := (hA4 a ha).1; simpa using this
      have s3 := n3.size
      rintro (e | e)
      · omega
      · have := hvl _ e.symm; omega
    rintro e w5 ⟨rfl, v', wr5, m5, st5⟩
    refine ⟨_, rfl, ?_⟩
    have m35 : Mod (WS g v) w3 w5 := Mod.trans n34.mod m5 (fun _ _ h => h)
    refine Exists.intro (Mod (WS g v) w3) (And.intro (fun _ h => h) (And.intro m35 ?_))
    refine Exists.intro act.k ?_
    refine And.intro (by rw [ad1]; exact cell m35 notS 1) ?_
    refine Exists.intro act.L (Exists.intro act.ln (Exists.intro act.lc ?_))
    refine And.intro (by rw [ad1]; exact cell m35 notS 4) ?_
    refine call_ (Put_ok A c bs act.k false act.L act.ln act.lc act.zs w5 (hrowA m35) hb.cap hb.top (hact.lr.new (hb3.newS m35)) hact.ln hact.lb (by omega)) ?_
    rintro e w6 ⟨A6, c6, rfl, row6, hc6, ht6, n6, hA6⟩
    refine ⟨_, rfl, ?_⟩
    have hal := allBs_len bs act.k false act.zs
    exact hK (v', A6, c6, allBs bs act.k false act.zs, allErr act.k false act.zs) _ _ ⟨rfl, rfl, rfl, rfl, rfl, rfl, trivial⟩ ⟨fin m35 wr5 st5 s34 n6 row6 hc6 ht6 hA6, by show (allBs bs act.k false act.zs).length ≤ _; omega⟩
  refine if_p (fun h1 => ?_) (fun h1 => ?_)
  · refine draw_ ok (.q 0 (.q 1 (.q 2 (.q 3 (.q 4 (.e 5 (.e 6 (.q 7 .done)))))))) [7] (Mod (WS g v) w3) (by kernel_rfl) (by kernel_rfl) (by kernel_rfl) (by kernel_rfl) (by kernel_rfl) (New.drew _).mod ?_
    refine Exists.intro act.k ?_
    refine And.intro (fun w'' hw => by rw [ad1]; exact cell hw notS 1) ?_
    refine Exists.intro act.L (Exists.intro act.ln (Exists.intro act.lc ?_))
    refine And.intro (fun w'' hw => by rw [ad1]; exact cell hw notS 4) ?_
    have hL := hact.lr.new hb3.new
    refine call_ (Ints_ok act.L act.ln act.lc act.zs w3.drew hact.ln (hL.new (New.drew _)) (by omega)) ?_
    rintro e w4 ⟨u, rfl, own4, n4⟩
    obtain ⟨A4, c4, rfl, _, _, row4, hA4⟩ := own_slice own4
    refine ⟨_, rfl, ?_⟩
    have n34 := (New.drew w3).trans n4
    have s34 := n34.size
    refine Exists.intro (Mod (WS g v) w3) (And.intro (fun _ h => h) (And.intro n34.mod ?_))
    refine call_ (WU_ok w.heap.size g v bs act.k A4 act.ln c4 act.zs w4 (hb3.wr.new n34) row4 hact.ln ?_ (by omega) (by omega)) ?_
    · intro a ha _
      have h1 : w3.heap.size ≤ a.block := by have := (hA4 a ha).1; simpa using this
      have s3 := n3.size
      rintro (e | e)
      · omega
      · have := hvl _ e.symm; omega
    rintro e w5 ⟨rfl, v', wr5, m5, st5⟩
    refine ⟨_, rfl, ?_⟩
    have m35 : Mod (WS g v) w3 w5 := Mod.trans n34.mod m5 (fun _ _ h => h)
    refine Exists.intro (Mod (WS g v) w3) (And.intro (fun _ h => h) (And.intro m35 ?_))
    refine Exists.intro act.k ?_
    refine And.intro (by rw [ad1]; exact cell m35 notS 1) ?_
    refine Exists.intro act.L (Exists.intro act.ln (Exists.intro act.lc ?_))
    refine And.intro (by rw [ad1]; exact cell m35 notS 4) ?_
    refine call_ (Put_ok A c bs act.k false act.L act.ln act.lc act.zs w5 (hrowA m35) hb.cap hb.top (hact.lr.new (hb3.newS m35)) hact.ln hact.lb (by omega)) ?_
    rintro e w6 ⟨A6, c6, rfl, row6, hc6, ht6, n6, hA6⟩
    refine ⟨_, rfl, ?_⟩
    have hal := allBs_len bs act.k false act.zs
    exact hK (v', A6, c6, allBs bs act.k false act.zs, allErr act.k false act.zs) _ _ ⟨rfl, rfl, rfl, rfl, rfl, rfl, trivial⟩ ⟨fin m35 wr5 st5 s34 n6 row6 hc6 ht6 hA6, by show (allBs bs act.k false act.zs).length ≤ _; omega⟩
  refine if_p (fun h2 => ?_) (fun h2 => ?_)
  · refine draw_ ok (.q 0 (.q 1 (.q 2 (.q 3 (.q 4 (.e 5 (.e 6 (.q 7 .done)))))))) [7] (Mod (WS g v) w3) (by kernel_rfl) (by kernel_rfl) (by kernel_rfl) (by kernel_rfl) (by kernel_rfl) (New.drew _).mod ?_
    refine Exists.intro act.k ?_
    refine And.intro (fun w'' hw => by rw [ad1]; exact cell hw notS 1) ?_
    refine Exists.intro act.L (Exists.intro act.ln (Exists.intro act.lc ?_))
    refine And.intro (fun w'' hw => by rw [ad1]; exact cell hw notS 4) ?_
    have hL := hact.lr.new hb3.new
    refine call_ (Ints_ok act.L act.ln act.lc act.zs w3.drew hact.ln (hL.new (New.drew _)) (by omega)) ?_
    rintro e w4 ⟨u, rfl, own4, n4⟩
    obtain ⟨A4, c4, rfl, _, _, row4, hA4⟩ := own_slice own4
    refine ⟨_, rfl, ?_⟩
    have n34 := (New.drew w3).trans n4
    have s34 := n34.size
    refine Exists.intro (Mod (WS g v) w3) (And.intro (fun _ h => h) (And.intro n34.mod ?_))
    refine call_ (WS_ok w.heap.size g v bs act.k A4 act.ln c4 act.zs w4 (hb3.wr.new n34) row4 hact.ln ?_ (by omega) (by omega)) ?_
    · intro a ha _
      have h1 : w3.heap.size ≤ a.block := by have := (hA4 a ha).1; simpa using this
      have s3 := n3.size
      rintro (e | e)
      · omega
      · have := hvl _ e.symm; omega
    rintro e w5 ⟨rfl, v', wr5, m5, st5⟩
    refine ⟨_, rfl, ?_⟩
    have m35 : Mod (WS g v) w3 w5 := Mod.trans n34.mod m5 (fun _ _ h => h)
    refine Exists.intro (Mod (WS g v) w3) (And.intro (fun _ h => h) (And.intro m35 ?_))
    refine Exists.intro act.k ?_
    refine And.intro (by rw [ad1]; exact cell m35 notS 1) ?_
    refine Exists.intro act.L (Exists.intro act.ln (Exists.intro act.lc ?_))
    refine And.intro (by rw [ad1]; exact cell m35 notS 4) ?_
    refine call_ (Put_ok A c bs act.k true act.L act.ln act.lc act.zs w5 (hrowA m35) hb.cap hb.top (hact.lr.new (hb3.newS m35)) hact.ln hact.lb (by omega)) ?_
    rintro e w6 ⟨A6, c6, rfl, row6, hc6, ht6, n6, hA6⟩
    refine ⟨_, rfl, ?_⟩
    have hal := allBs_len bs act.k true act.zs
    exact hK (v', A6, c6, allBs bs act.k true act.zs, allErr act.k true act.zs) _ _ ⟨rfl, rfl, rfl, rfl, rfl, rfl, trivial⟩ ⟨fin m35 wr5 st5 s34 n6 row6 hc6 ht6 hA6, by show (allBs bs act.k true act.zs).length ≤ _; omega⟩
  refine if_p (fun h3 => ?_) (fun h3 => ?_)
  · refine Exists.intro act.B (Exists.intro act.bn (Exists.intro act.bc ?_))
    refine And.intro (by rw [ad1]; exact cell0 5) ?_
    have hB := hact.br.new hb3.new
    refine call_ (Base.Bytes_ok act.B act.bn act.bc act.bs w3 hact.bn hB (by omega)) ?_
    rintro e w4 ⟨u, rfl, own4, n4⟩
    obtain ⟨A4, c4, rfl, _, _, row4, hA4⟩ := own_slice own4
    refine ⟨_, rfl, ?_⟩
    have s34 := n4.size
    refine call_ (WBytes_ok w.heap.size g v bs A4 act.bn c4 act.bs w4 (hb3.wr.new n4) row4 hact.bn (by omega) (by omega)) ?_
    rintro e w5 ⟨rfl, v', wr5, m5, st5⟩
    refine ⟨_, rfl, ?_⟩
    have m35 : Mod (WS g v) w3 w5 := Mod.trans n4.mod m5 (fun _ _ h => h)
    refine draw_ ok (.q 0 (.q 2 (.q 3 (.e 1 (.e 4 (.q 5 .done)))))) [5] (New w5) (by kernel_rfl) (by kernel_rfl) (by kernel_rfl) (by kernel_rfl) (by kernel_rfl) (New.drew _) ?_
    refine Exists.intro act.B (Exists.intro act.bn (Exists.intro act.bc ?_))
    refine And.intro (fun w'' hw => by rw [ad1]; exact cell (m35.new hw) notS 5) ?_
    refine call_ (Base.Bytes_ok A bs.length c bs w5.drew rfl ((hrowA m35).new (New.drew _)) (by omega)) ?_
    rintro e w7 ⟨u7, rfl, own7, n7⟩
    obtain ⟨A7, c7, rfl, _⟩ := own_slice own7
    refine ⟨_, rfl, ?_⟩
    have n57 := (New.drew w5).trans n7
    refine Exists.intro (New w5) (And.intro (fun _ h => h) (And.intro n57 ?_))
    refine eff_app rfl rfl (fun _ _ => rfl) ?_
    have hB7 := hact.br.new ((hb3.newS m35).trans n57)
    refine append2_ ok rfl rfl rfl rfl own7 rfl rfl hB7 (by rw [bvs_length, hact.bn]; exact (Nat.mul_one _).symm) (bvs_one _) (by decide) rfl (by show (bs.length + act.bn) * 1 ≤ _; omega) (by omega) n7.size ?_
    intro A8 c8 w8 own8 mod8 st8
    have n8 : New w5 w8 := New.of_own n57 own7 mod8
    refine Exists.intro (New w5) (And.intro (fun _ h => h) (And.intro n8 ?_))
    have e8 : bs.length + act.bn = (bs ++ act.bs).length := by simp [hact.bn]
    obtain ⟨hc8, ht8, row8, hA8⟩ := own_row own8
    rw [← bvs_append] at row8
    exact hK (v', A8, c8, bs ++ act.bs, 0) _ _ ⟨rfl, rfl, by show Value.slice A8 (bs.length + act.bn) c8 = _; rw [e8], rfl, rfl, rfl, trivial⟩ ⟨fin m35 wr5 st5 s34 n8 row8 (by rw [← e8]; exact hc8) ht8 (fun a ha => .inr (hA8 a ha)), by show (bs ++ act.bs).length ≤ _; rw [List.length_append]; omega⟩
  refine if_p (fun h4 => ?_) (fun h4 => ?_)
  · refine Exists.intro act.n ?_
    refine And.intro (by rw [ad1]; exact cell0 2) ?_
    refine Exists.intro act.k ?_
    refine And.intro (by rw [ad1]; exact cell0 1) ?_
    refine Exists.intro act.m ?_
    refine And.intro (by rw [ad1]; exact cell0 3) ?_
    refine call_ (Patch_ok w.heap.size g v bs act.n act.k act.m w3 hb3.wr (by omega)) ?_
    rintro e w4 ⟨rfl, wr4, m34⟩
    refine ⟨_, rfl, ?_⟩
    refine Exists.intro act.k ?_
    refine And.intro (by rw [ad1]; exact cell m34 notS 1) ?_
    refine Exists.intro act.m ?_
    refine And.intro (by rw [ad1]; exact cell m34 notS 3) ?_
    refine call_ (NBytes_ok act.k act.m false w4 hact.mb.1 hact.mb.2) ?_
    rintro e w5 ⟨u, rfl, own5, n5⟩
    obtain ⟨A5, c5, rfl, _, _, row5, _⟩ := own_slice own5
    refine ⟨_, rfl, ?_⟩
    have m35 := m34.new n5
    have wr5 := wr4.new n5
    have bad : ¬ (wide act.k = true ∧ fits act.k act.m false = true ∧ 0 ≤ act.n ∧ act.n ≤ (bs.length : Int) - act.k) → pat bs act.n act.k act.m = (2, bs) := fun h => by unfold pat; rw [if_neg h]
    have out : pat bs act.n act.k act.m = (2, bs) → ∀ fr, Slots fr [(0, .slice (some a) q qc), (3, .pointer (some ⟨g, 0, none⟩)), (4, .slice A bs.length c), (5, .int .i64 i), (7, .int .i64 (pat bs act.n act.k act.m).1), (8, .int .i64 2)] → K fr w5 := by
      intro hp fr hs
      rw [hp] at hs wr5
      exact hK (v, A, c, bs, 2) fr w5 hs ⟨fin m35 wr5 (stayed.refl w3 v) (Nat.le_refl _) (New.refl w5) (hrowA m35) hb.cap hb.top (fun a ha => .inl ha), by show bs.length ≤ _; omega⟩
    refine if_ (fun hbad => ?_) (fun hgood => ?_)
    · exact out (bad (by
        rintro ⟨h1, h2, _⟩
        rw [h1, h2] at hbad
        cases hbad)) _ ⟨rfl, rfl, rfl, rfl, rfl, rfl, trivial⟩
    replace hgood : (wide act.k && fits act.k act.m false) = true := by simpa using hgood
    obtain ⟨hwk, hfk⟩ : wide act.k = true ∧ fits act.k act.m false = true := by simpa using hgood
    refine Exists.intro act.n ?_
    refine And.intro (by rw [ad1]; exact cell m35 notS 2) ?_
    refine if_p (fun hneg => ?_) (fun hneg => ?_)
    · exact out (bad (by rintro ⟨_, _, h1, _⟩; omega)) _ ⟨rfl, rfl, rfl, rfl, rfl, rfl, trivial⟩
    refine Exists.intro act.n ?_
    refine And.intro (by rw [ad1]; exact cell m35 notS 2) ?_
    refine Exists.intro act.k ?_
    refine And.intro (by rw [ad1]; exact cell m35 notS 1) ?_
    have hkc := wide_cases hwk
    have esub : IntKind.i64.wrap ((bs.length : Int) - act.k) = (bs.length : Int) - act.k := wrap_i64 (by omega) (by omega)
    refine if_p (fun hl4 => ?_) (fun hl4 => ?_)
    · rw [esub] at hl4
      exact out (bad (by rintro ⟨_, _, _, h1⟩; omega)) _ ⟨rfl, rfl, rfl, rfl, rfl, rfl, trivial⟩
    rw [esub] at hl4
    have hp : pat bs act.n act.k act.m = (0, patch bs act.n.toNat act.k.toNat act.m) := by unfold pat; rw [if_pos ⟨hwk, hfk, by omega, by omega⟩]
    have hcap := hb.cap
    have esum : IntKind.i64.wrap (act.n + act.k) = ((act.n.toNat + act.k.toNat : Nat) : Int) := by rw [wrap_i64 (by omega) (by omega)]; omega
    have hin : act.n.toNat + act.k.toNat ≤ bs.length := by omega
    refine draw_ ok (.q 0 (.q 1 (.q 2 (.q 3 (.q 5 (.q 7 (.q 8 (.q 9 (.q 10 (.q 11 (.q 12 (.q 13 (.e 4 (.e 6 (.e 14 (.q 15 .done)))))))))))))))) [15] (New w5) (by kernel_rfl) (by kernel_rfl) (by kernel_rfl) (by kernel_rfl) (by kernel_rfl) (New.drew _) ?_
    refine Exists.intro act.n ?_
    refine And.intro (fun w'' hw => by rw [ad1]; exact cell (m35.new hw) notS 2) ?_
    refine And.intro (by omega) (And.intro (by omega) ?_)
    refine Exists.intro act.n ?_
    refine And.intro (fun w'' hw => by rw [ad1]; exact cell (m35.new hw) notS 2) ?_
    refine Exists.intro act.k ?_
    refine And.intro (fun w'' hw => by rw [ad1]; exact cell (m35.new hw) notS 1) ?_
    refine And.intro (by rw [esum]; omega) (And.intro (by rw [esum]; omega) ?_)
    have hrow5 := hrowA m35
    have htake : bvs (bs.take act.n.toNat) = (bvs bs).take act.n.toNat := by simp [bvs, List.map_take]
    refine call_ (Base.Bytes_ok A act.n.toNat c (bs.take act.n.toNat) w5.drew (by rw [List.length_take]; omega) (by rw [htake]; exact (hrow5.new (New.drew _)).take _) (by omega)) ?_
    rintro e w7 ⟨u7, rfl, own7, n7⟩
    obtain ⟨A7, c7, rfl, _⟩ := own_slice own7
    refine ⟨_, rfl, ?_⟩
    have n57 := (New.drew w5).trans n7
    refine Exists.intro (New w5) (And.intro (fun _ h => h) (And.intro n57 ?_))
    refine eff_app rfl rfl (fun _ _ => rfl) ?_
    have hen : encOr act.k act.m false = enc act.k.toNat act.m := by unfold encOr; rw [if_pos hgood]
    have hel : (encOr act.k act.m false).length = act.k.toNat := by rw [hen, enc_length]
    refine append2_ ok rfl rfl rfl rfl own7 rfl rfl (row5.new n57) (by rw [bvs_length]; exact (Nat.mul_one _).symm) (bvs_one _) (by decide) rfl (by rw [hel]; show (act.n.toNat + act.k.toNat) * 1 ≤ _; omega) (by rw [hel]; omega) n7.size ?_
    intro A8 c8 w8 own8 mod8 st8
    have n8 : New w5 w8 := New.of_own n57 own7 mod8
    refine Exists.intro (New w5) (And.intro (fun _ h => h) (And.intro n8 ?_))
    refine eff_app rfl rfl (fun _ _ => rfl) ?_
    have hcut := (hrow5.new n8).cut c (IntKind.i64.wrap (act.n + act.k)).toNat 1 (by rw [bvs_length]; omega)
    have hdl : ((bvs bs).drop ((IntKind.i64.wrap (act.n + act.k)).toNat * 1)).length = bs.length - (IntKind.i64.wrap (act.n + act.k)).toNat := by rw [List.length_drop, bvs_length, Nat.mul_one]
    refine append2_ ok rfl rfl rfl rfl own8 rfl rfl hcut (by rw [hdl]; exact (Nat.mul_one _).symm) (fun u hu => bvs_one bs u (List.mem_of_mem_drop hu)) (by decide) rfl (by rw [hel, esum]; show (act.n.toNat + act.k.toNat + (bs.length - _)) * 1 ≤ _; omega) (by rw [hel, esum]; omega) n8.size ?_
    intro A9 c9 w9 own9 mod9 st9
    have n9 : New w5 w9 := New.of_own n8 own8 mod9
    refine Exists.intro (New w5) (And.intro (fun _ h => h) (And.intro n9 ?_))
    have e9 : act.n.toNat + (encOr act.k act.m false).length + (bs.length - (IntKind.i64.wrap (act.n + act.k)).toNat) = (patch bs act.n.toNat act.k.toNat act.m).length := by
      rw [patch_length _ _ _ _ hin, hel, esum]
      omega
    have ebs : bvs (bs.take act.n.toNat) ++ bvs (encOr act.k act.m false) ++ (bvs bs).drop ((IntKind.i64.wrap (act.n + act.k)).toNat * 1) = bvs (patch bs act.n.toNat act.k.toNat act.m) := by
      rw [hen, esum, Nat.mul_one, Int.toNat_natCast]
      simp [patch, bvs, List.map_drop]
    obtain ⟨hc9, ht9, row9, hA9⟩ := own_row own9
    rw [ebs] at row9
    rw [hp] at wr5
    have hpl := patch_length bs act.n.toNat act.k.toNat act.m hin
    refine hK (v, A9, c9, patch bs act.n.toNat act.k.toNat act.m, 0) _ _ ⟨rfl, rfl, ?_, rfl, ?_, rfl, trivial⟩ ⟨fin m35 wr5 (stayed.refl w3 v) (Nat.le_refl _) n9 row9 (by rw [← e9]; exact hc9) ht9 (fun a ha => .inr (hA9 a ha)), by show (patch bs act.n.toNat act.k.toNat act.m).length ≤ _; omega⟩
    · show Value.slice A9 (act.n.toNat + (encOr act.k act.m false).length + (bs.length - (IntKind.i64.wrap (act.n + act.k)).toNat)) c9 = _
      rw [e9]
    · show Value.int .i64 (pat bs act.n act.k act.m).1 = _
      rw [hp]
  exact hK (v, A, c, bs, 0) _ _ ⟨rfl, rfl, rfl, rfl, rfl, rfl, trivial⟩ ⟨hb3, by show bs.length ≤ _; omega⟩
end Go.Proofs.Ytgefmbkiljhjlaa.Word

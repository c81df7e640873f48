/- The statement WordReads, walked. -/
import Derived.Test.YtgefmbkiljhjlaaWRef5
import Derived.Test.YtgefmbkiljhjlaaMem3
import Derived.Test.YtgefmbkiljhjlaaWOpen
namespace Go.Proofs.Ytgefmbkiljhjlaa.Word
open Go Go.Proofs.Ytgefmbkiljhjlaa Go.Proofs.Ytgefmbkiljhjlaa.Eng Go.Proofs
set_option maxRecDepth 10000

theorem WordReads_ok (A : Option Addr) (n c : Nat) (bs : List UInt8) (D : Option Addr) (q qc : Nat) (acts : List ActV) (w : World) (hn : n = bs.length) (hr : Row w A (bvs bs)) (hc : n ≤ c) (ht : c ≤ 9223372036854775807) (hm : n ≤ 140737488351232)
    (hq : q = acts.length) (hd : Rows2 w D 6 (acts.map ActV.cells)) :
    Calls Try.prog 5 #[.slice A n c, .slice D q qc] w fun e w' => e = .returned (.bool true) ∧ New w w' := by
  subst hn
  refine enter ok Try.func5 rfl rfl rfl ?_
  refine call_ (Base.Bytes_ok A bs.length c bs w rfl hr (by omega)) ?_
  rintro e w0 ⟨v0, rfl, own0, n0⟩
  obtain ⟨A0, c0, rfl, hc0, ht0, row0, hA0⟩ := own_slice own0
  refine ⟨_, rfl, ?_⟩
  refine call_ (Read_ok A0 c0 bs w0 row0 hc0 ht0 (fun a ha => (hA0 a ha).2.1)) ?_
  rintro e w1 ⟨rfl, rd1, n1, z1⟩
  refine ⟨_, rfl, ?_⟩
  have s0 := n0.size
  have s1 := n1.size
  have hAlt : bs ≠ [] → ∀ a, A = some a → a.block < w.heap.size := fun hb a ha => hr.lt (by simpa [bvs] using hb) ha
  have n2 := New.alloc w1 (.cells #[.slice A bs.length c, .int .i64 0] 43)
  have rd2 := rd1.new n2
  have rf2 : Rf (w1.alloc (.cells #[.slice A bs.length c, .int .i64 0] 43)) w1.heap.size A c bs 0 :=
    ⟨heap_alloc_new w1 _, ((hr.new n0).new n1).new n2, fun hb a ha => by have := hAlt hb a ha; omega, Nat.zero_le _, hc, ht⟩
  have n02 := (n0.trans n1).trans n2
  refine den_loop (σ := Nat × Nat) (fun s => [(0, .slice A bs.length c), (1, .slice D q qc), (5, .slice A0 bs.length c0), (6, .pointer (some ⟨w0.heap.size, 0, none⟩)), (7, .pointer (some ⟨w1.heap.size, 0, none⟩)), (8, .int .i64 s.1)])
    (fun m s wl => s.1 ≤ q ∧ s.1 ≤ 100 ∧ m = 100 - s.1 ∧ Rd wl w0.heap.size A0 c0 bs s.2 ∧ Rf wl w1.heap.size A c bs s.2 ∧ New w wl ∧ w1.heap.size < wl.heap.size) 100 (0, 0) ⟨rfl, rfl, rfl, rfl, rfl, rfl, trivial⟩
    ⟨Nat.zero_le _, Nat.zero_le _, rfl, rd2, rf2, n02, by simp⟩ ?_
  rintro m ⟨i, p⟩ wl fr0 ⟨hi, hi100, rfl, rd, rf, nl, hsl⟩
  dsimp only at hi hi100 rd rf
  refine if_p (fun hlt => ?_) (fun hge => ?_)
  rotate_left
  · refine call_ (Base.SameBytes_ok A0 A bs.length c0 bs.length c bs bs wl rfl rfl rd.row rf.row) ?_
    rintro e w3 ⟨rfl, rfl⟩
    refine ⟨_, rfl, ?_⟩
    refine if_yes (decide_eq_true rfl) ?_
    refine call_ (works_ok w3) ?_
    rintro e w4 ⟨b, rfl, rfl, n4⟩
    exact ⟨_, rfl, rfl, nl.trans n4⟩
  refine if_p (fun hlt2 => ?_) (fun hge2 => ?_)
  rotate_left
  · refine call_ (Base.SameBytes_ok A0 A bs.length c0 bs.length c bs bs wl rfl rfl rd.row rf.row) ?_
    rintro e w3 ⟨rfl, rfl⟩
    refine ⟨_, rfl, ?_⟩
    refine if_yes (decide_eq_true rfl) ?_
    refine call_ (works_ok w3) ?_
    rintro e w4 ⟨b, rfl, rfl, n4⟩
    exact ⟨_, rfl, rfl, nl.trans n4⟩
  have hi' : i < acts.length := by omega
  obtain ⟨a, rfl, hcells⟩ := hd.at_ i (by simpa using hi')
  have hcell' : ∀ k u, (acts[i].cells)[k]? = some u → wl.cell? ((a.add (i * 6)).add k) = some u := fun k u hu => nl.cell (hcells k u (by simpa using hu))
  refine skip_ (thenF_ (seq_ (block_ (seq_ (region_ ?_)))))
  refine ops_cut (σ := World × Nat) (fun s => [(0, .slice A bs.length c), (1, .slice (some a) q qc), (5, .slice A0 bs.length c0), (6, .pointer (some ⟨w0.heap.size, 0, none⟩)), (7, .pointer (some ⟨w1.heap.size, 0, none⟩)), (8, .int .i64 i), (9, .pointer (some ⟨wl.heap.size, 0, none⟩))])
    (fun s w' => New wl w' ∧ w'.heap[wl.heap.size]? = some (.cells (acts[i].cells).toArray 45 (0, 0))) ?_ ?_
  rotate_left
  · intro K hK
    refine And.intro (by omega) (And.intro hlt (some_at rfl ?_))
    refine loadN_row (vs := acts[i].cells) (by rw [Int.toNat_natCast]; exact hcell') rfl ?_
    refine And.intro rfl ?_
    refine storeN_all (vs := acts[i].cells) (arr := #[.int .i64 0, .int .i64 0, .int .i64 0, .int .i64 0, .slice none 0 0, .slice none 0 0]) (t := 45) (heap_alloc_new wl _) rfl (by intro v hv; simp [ActV.cells] at hv; rcases hv with rfl | rfl | rfl | rfl | rfl | rfl <;> rfl) ?_
    intro w' hb mb hs
    refine hK (w', 0) _ _ ⟨rfl, rfl, rfl, rfl, rfl, rfl, rfl, trivial⟩ ⟨Mod.trans (New.alloc wl _) mb (fun b hb e => by omega), hb⟩
  rintro s w3 fr1 ⟨n3, hblk⟩
  have rd3 := rd.new n3
  have rf3 := rf.new n3
  have hs3 := n3.size
  have hl3 := nl.size
  have hlen : ((acts.map ActV.cells)[i]'(by simpa using hi')) = acts[i].cells := by simp
  generalize acts[i] = act at hblk
  have cell : ∀ {w' : World} {S : Nat → Prop}, Mod S w3 w' → ¬ S wl.heap.size → ∀ j, w'.cell? ⟨wl.heap.size, j, none⟩ = (act.cells)[j]? := fun m hn j => by
    rw [cell_of_row _ _ j _ _ _ (m.blk hblk hn)]
    simp
  -- both readers, when one of them is turned
  have keep : ∀ {w4 w5 : World} {p4 p5 : Nat}, Rd w4 w0.heap.size A0 c0 bs p4 → Mod (fun b => b = w0.heap.size) w3 w4 → Rf w5 w1.heap.size A c bs p5 → Mod (fun b => b = w1.heap.size) w4 w5 → Rd w5 w0.heap.size A0 c0 bs p4 := fun h4 m4 h5 m5 =>
    h4.mod m5 (by omega) (fun a ha e => by have := (hA0 a ha).2.1; omega)
  have keepf : ∀ {w4 : World}, Mod (fun b => b = w0.heap.size) w3 w4 → Rf w4 w1.heap.size A c bs p := fun m4 =>
    rf3.mod m4 (by omega) (fun hb a ha e => by have := hAlt hb a ha; omega)
  have newof : ∀ {w4 w5 : World}, Mod (fun b => b = w0.heap.size) w3 w4 → Mod (fun b => b = w1.heap.size) w4 w5 → New w w5 := fun m4 m5 =>
    Mod.trans (Mod.trans (nl.trans n3) m4 (fun b hb e => by omega)) m5 (fun b hb e => by omega)
  have big : ∀ {w4 w5 : World}, Mod (fun b => b = w0.heap.size) w3 w4 → Mod (fun b => b = w1.heap.size) w4 w5 → w1.heap.size < w5.heap.size := fun m4 m5 => by
    have := m4.size
    have := m5.size
    omega
  refine thenF_ (seq_assign ?_)
  refine seq_cut (σ := Nat) (fun _ => [(0, .slice A bs.length c), (1, .slice (some a) q qc), (5, .slice A0 bs.length c0), (6, .pointer (some ⟨w0.heap.size, 0, none⟩)), (7, .pointer (some ⟨w1.heap.size, 0, none⟩)), (8, .int .i64 i), (10, .bool true)]) (fun p' w6 => Rd w6 w0.heap.size A0 c0 bs p' ∧ Rf w6 w1.heap.size A c bs p' ∧ New w w6 ∧ w1.heap.size < w6.heap.size) ?_ ?_
  rotate_left
  · intro K hK
    refine Exists.intro act.d ?_
    refine And.intro (by rw [ad1]; exact cell (Mod.refl (fun _ => False) _) (fun h => h) 0) ?_
    refine call_ (Base.Among_ok act.d 4 w3 (by omega)) ?_
    rintro e w' ⟨rfl, rfl⟩
    refine ⟨_, rfl, ?_⟩
    generalize Base.among act.d 4 = j
    refine if_p (fun h0 => ?_) (fun h0 => ?_)
    · refine if_yes (decide_eq_true h0) ?_
      refine Exists.intro act.k ?_
      refine And.intro (by rw [ad1]; exact cell (Mod.refl (fun _ => False) _) (fun h => h) 1) ?_
      refine call_ (U_ok w0.heap.size A0 c0 bs p act.k _ rd3) ?_
      rintro e w4 ⟨rfl, rd4, m4⟩
      refine ⟨_, rfl, ?_⟩
      refine Exists.intro act.k ?_
      refine And.intro (by rw [ad1]; exact cell m4 (by omega) 1) ?_
      refine call_ (Get_ok w1.heap.size A c bs p act.k false w4 (keepf m4)) ?_
      rintro e w5 ⟨rfl, rf5, m5⟩
      refine ⟨_, rfl, ?_⟩
      refine if_yes (decide_eq_true rfl) ?_
      exact hK _ _ _ ⟨rfl, rfl, rfl, rfl, rfl, rfl, by show Value.bool (decide (_ = _)) = _; rw [decide_eq_true rfl], trivial⟩ ⟨keep rd4 m4 rf5 m5, rf5, newof m4 m5, big m4 m5⟩
    refine if_p (fun h1 => ?_) (fun h1 => ?_)
    · refine Exists.intro act.k ?_
      refine And.intro (by rw [ad1]; exact cell (Mod.refl (fun _ => False) _) (fun h => h) 1) ?_
      refine call_ (U_ok w0.heap.size A0 c0 bs p act.k _ rd3) ?_
      rintro e w4 ⟨rfl, rd4, m4⟩
      refine ⟨_, rfl, ?_⟩
      refine Exists.intro act.k ?_
      refine And.intro (by rw [ad1]; exact cell m4 (by omega) 1) ?_
      refine call_ (Get_ok w1.heap.size A c bs p act.k false w4 (keepf m4)) ?_
      rintro e w5 ⟨rfl, rf5, m5⟩
      refine ⟨_, rfl, ?_⟩
      refine if_yes (decide_eq_true rfl) ?_
      exact hK _ _ _ ⟨rfl, rfl, rfl, rfl, rfl, rfl, by show Value.bool (decide (_ = _)) = _; rw [decide_eq_true rfl], trivial⟩ ⟨keep rd4 m4 rf5 m5, rf5, newof m4 m5, big m4 m5⟩
    refine if_p (fun h2 => ?_) (fun h2 => ?_)
    · refine Exists.intro act.k ?_
      refine And.intro (by rw [ad1]; exact cell (Mod.refl (fun _ => False) _) (fun h => h) 1) ?_
      refine call_ (S_ok w0.heap.size A0 c0 bs p act.k _ rd3) ?_
      rintro e w4 ⟨rfl, rd4, m4⟩
      refine ⟨_, rfl, ?_⟩
      refine Exists.intro act.k ?_
      refine And.intro (by rw [ad1]; exact cell m4 (by omega) 1) ?_
      refine call_ (Get_ok w1.heap.size A c bs p act.k true w4 (keepf m4)) ?_
      rintro e w5 ⟨rfl, rf5, m5⟩
      refine ⟨_, rfl, ?_⟩
      refine if_yes (decide_eq_true rfl) ?_
      exact hK _ _ _ ⟨rfl, rfl, rfl, rfl, rfl, rfl, by show Value.bool (decide (_ = _)) = _; rw [decide_eq_true rfl], trivial⟩ ⟨keep rd4 m4 rf5 m5, rf5, newof m4 m5, big m4 m5⟩
    refine if_p (fun h3 => ?_) (fun h3 => ?_)
    rotate_left
    · exact hK p _ _ ⟨rfl, rfl, rfl, rfl, rfl, rfl, rfl, trivial⟩ ⟨rd3, rf3, nl.trans n3, by omega⟩
    refine Exists.intro act.n ?_
    refine And.intro (by rw [ad1]; exact cell (Mod.refl (fun _ => False) _) (fun h => h) 2) ?_
    refine call_ (RBytes_ok w0.heap.size A0 c0 bs p act.n _ rd3 (by omega)) ?_
    rintro e w4 ⟨v4, rfl, own4, rd4, m4⟩
    obtain ⟨A4, c4, rfl, hc4, ht4, row4, hA4⟩ := own_slice own4
    refine ⟨_, rfl, ?_⟩
    refine Exists.intro act.n ?_
    refine And.intro (by rw [ad1]; exact cell m4 (by omega) 2) ?_
    refine call_ (RfBytes_ok w1.heap.size A c bs p act.n w4 (keepf m4) (by omega)) ?_
    rintro e w5 ⟨v5, rfl, own5, rf5, m5⟩
    obtain ⟨A5, c5, rfl, hc5, ht5, row5, hA5⟩ := own_slice own5
    refine ⟨_, rfl, ?_⟩
    have rd5 := keep rd4 m4 rf5 m5
    have own45 := own_mod m5 own4 (fun k hk e => by have := (own4.lt k hk).1; omega)
    refine call_ (Base.SameBytes_ok A4 A5 _ c4 _ c5 (getB bs p act.n).1 (getB bs p act.n).1 w5 rfl rfl (own_row own45).2.2.1 row5) ?_
    rintro e w6 ⟨rfl, rfl⟩
    refine ⟨_, rfl, ?_⟩
    refine if_yes (decide_eq_true rfl) ?_
    generalize hN : (getB bs p act.n).1.length = N at own45 own4
    have hN48 : N ≤ 9223372036854775807 := by omega
    have hsz45 := m5.size
    have hsz4 := m4.size
    refine den_loop (σ := Nat) (fun x => [(0, .slice A bs.length c), (1, .slice (some a) q qc), (5, .slice A0 bs.length c0), (6, .pointer (some ⟨w0.heap.size, 0, none⟩)), (7, .pointer (some ⟨w1.heap.size, 0, none⟩)), (8, .int .i64 i), (10, .bool true), (19, .slice A4 N c4), (23, .int .i64 x)])
      (fun m x wx => x ≤ N ∧ m = N - x ∧ (∃ ys : List UInt8, ys.length = N ∧ wx.ownsRow w'.heap.size 5 1 (.slice A4 N c4) N (bvs ys)) ∧ Mod (fun b => w'.heap.size ≤ b) w6 wx) N 0 ⟨rfl, rfl, rfl, rfl, rfl, rfl, by show Value.bool (decide (_ = _)) = _; rw [decide_eq_true rfl], rfl, rfl, trivial⟩
      ⟨Nat.zero_le _, rfl, ⟨_, hN, own45⟩, Mod.refl _ _⟩ ?_
    rintro m x wx fr2 ⟨hx, rfl, ⟨ys, hys, ownx⟩, mx⟩
    refine if_p (fun hxl => ?_) (fun hxg => ?_)
    · obtain ⟨gq, cq, hsl4, hgq, _⟩ := own_pos ownx (by omega)
      obtain ⟨rfl, _, _⟩ : A4 = some ⟨gq, 0, none⟩ ∧ N = N ∧ c4 = cq := by
        injection hsl4 with e1 e2 e3
        exact ⟨e1, rfl, e3⟩
      obtain ⟨hcx, hfx, hst⟩ := own_store ownx x (by rw [bvs_length]; omega)
      have ex : (⟨gq, 0, none⟩ : Addr).add ((x : Int).toNat * 1) = ⟨gq, x, none⟩ := by rw [Nat.mul_one, Int.toNat_natCast, ad1]
      refine And.intro (by omega) (And.intro hxl (And.intro ⟨_, by rw [ex]; exact hcx⟩ (And.intro (by rw [ex]; exact hfx) ?_)))
      obtain ⟨own7, mod7⟩ := hst (bv 201)
      rw [bvs_set] at own7
      refine ⟨N - (x + 1), x + 1, by omega, ⟨rfl, rfl, rfl, rfl, rfl, rfl, rfl, rfl, ?_, trivial⟩, by omega, rfl, ⟨ys.set x 201, ?_, ?_⟩, ?_⟩
      · show Value.int .i64 (IntKind.i64.wrap _) = _
        rw [wrap_i64 (by omega) (by omega)]
        rfl
      · rw [List.length_set]; exact hys
      · rw [← ex] at own7
        exact own7
      · rw [← ex] at mod7
        have hb7 : ((⟨gq, 0, none⟩ : Addr).add ((x : Int).toNat * 1)).block = gq := by rw [ex]
        exact Mod.trans mx mod7 fun b _ e => by omega
    · refine hK (getB bs p act.n).2.2 _ _ ⟨rfl, rfl, rfl, rfl, rfl, rfl, rfl, trivial⟩ ⟨rd5.mod mx (by omega) (fun a ha e => by have := (hA0 a ha).2.1; omega), rf5.mod mx (by omega) (fun hb a ha e => by have := hAlt hb a ha; omega), ?_, ?_⟩
      · exact Mod.trans (newof m4 m5) mx (fun b hb e => by omega)
      · have := big m4 m5
        have := mx.size
        omega
  rintro p6 w6 fr4 ⟨rd6, rf6, n6, hb6⟩
  have ha6 := rd6.at_
  refine draw_ ok (.q 0 (.q 1 (.q 2 (.q 3 (.q 5 (.q 6 (.q 7 (.q 8 (.e 4 (.q 9 (.q 10 (.q 11 (.q 12 (.q 14 (.q 15 (.q 16 (.q 17 (.q 18 (.q 19 (.q 20 (.e 13 (.q 21 (.q 22 .done))))))))))))))))))))))) [22] (New w6) (by kernel_rfl) (by kernel_rfl) (by kernel_rfl) (by kernel_rfl) (by kernel_rfl) (New.drew _) ?_
  refine Exists.intro (p6 : Int) (And.intro (fun w'' hw => by rw [ad1]; exact hw.cell rf6.c1) ?_)
  refine call_ (At_ok w0.heap.size A0 c0 bs p6 _ (rd6.new (New.drew _))) ?_
  rintro e w7 ⟨rfl, rfl⟩
  refine ⟨_, rfl, ?_⟩
  refine Exists.intro (New w6) (And.intro (fun _ h => h) (And.intro (New.drew _) ?_))
  refine if_n (fun hne => absurd rfl hne) (fun _ => ?_)
  refine Exists.intro (p6 : Int) (And.intro (fun w'' hw => by rw [ad1]; exact hw.cell rf6.c1) ?_)
  refine call_ (Left_ok w0.heap.size A0 c0 bs p6 _ (rd6.new (New.drew _))) ?_
  rintro e w8 ⟨rfl, n8⟩
  refine ⟨_, rfl, ?_⟩
  have n68 := (New.drew w6).trans n8
  refine Exists.intro (New w6) (And.intro (fun _ h => h) (And.intro n68 ?_))
  refine if_n (fun hne => absurd ?_ hne) (fun _ => ?_)
  · rw [wrap_i64 (by omega) (by omega)]
  have hs8 := n68.size
  refine ⟨100 - (i + 1), (i + 1, p6), by omega, ⟨rfl, rfl, rfl, rfl, rfl, ?_, trivial⟩, by show i + 1 ≤ q; omega, by show i + 1 ≤ 100; omega, rfl, rd6.new n68, rf6.new n68, n6.trans n68, by omega⟩
  show Value.int .i64 (IntKind.i64.wrap _) = _
  rw [wrap_i64 (by omega) (by omega)]
  rfl
end Go.Proofs.Ytgefmbkiljhjlaa.Word

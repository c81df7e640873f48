/- The package code, walked: Decode and Encode. -/
import Derived.Test.YtcpeekeiflglpaaCEnc1
namespace Go.Proofs.Ytcpeekeiflglpaa.Code
open Go Go.Proofs.Ytcpeekeiflglpaa Go.Proofs.Ytcpeekeiflglpaa.Eng Go.Proofs Go.Proofs.Ytcpeekeiflglpaa.Word
open Go.Proofs.Ytcpeekeiflglpaa.Pool (both own_low)
set_option maxRecDepth 10000

def erOf (bs : List UInt8) : Int := if 4096 < bs.length then 3 else match dec bs with
  | none => 90
  | some _ => 0
def lsOf (bs : List UInt8) : List Ins := if 4096 < bs.length then [] else (dec bs).getD []
theorem er_zero {bs : List UInt8} : erOf bs = 0 ↔ bs.length ≤ 4096 ∧ dec bs = some (lsOf bs) := by
  unfold erOf lsOf
  split
  · constructor
    · intro h; cases h
    · rintro ⟨h, _⟩; omega
  · cases dec bs with
    | none =>
      constructor
      · intro h
        cases h
      · rintro ⟨_, h⟩
        cases h
    | some l => exact ⟨fun _ => ⟨by omega, rfl⟩, fun _ => rfl⟩
def DecRes (w : World) (bs : List UInt8) (e : Ending) (w' : World) : Prop :=
  ∃ ts A c, ts.map (·.1) = lsOf bs ∧ e = .returned (.tuple #[.slice A ts.length c, .int .i64 (erOf bs)]) ∧ Ct w' A ts ∧ ts.length ≤ c ∧ c ≤ 9223372036854775807 ∧ New w w'
theorem ct_nil (w : World) (A : Option Addr) : Ct w A [] := ⟨Row.nil _ _, fun _ h => by cases h⟩
theorem Decode_ok (A : Option Addr) (n c : Nat) (bs : List UInt8) (w : World) (hn : n = bs.length) (hr : Row w A (bvs bs)) (hc : bs.length ≤ c) (ht : c ≤ 9223372036854775807) :
    Calls Try.prog 25 #[.slice A n c] w (DecRes w bs) := by
  subst hn
  refine enter ok Try.func25 rfl rfl rfl ?_
  refine if_p (fun hlt => ?_) (fun hge => ?_)
  · replace hlt : (4096 : Int) < (bs.length : Int) := hlt
    refine ⟨[], none, 0, ?_, ?_, ct_nil _ _, Nat.le_refl _, by omega, New.refl _⟩
    · unfold lsOf; rw [if_pos (by omega)]; rfl
    · unfold erOf; rw [if_pos (by omega)]; rfl
  · replace hge : ¬ (4096 : Int) < (bs.length : Int) := hge
    have hlen : ¬ 4096 < bs.length := by omega
    refine call_ (decode_ok A _ c bs w rfl hr hc ht (by omega)) ?_
    rintro e w1 ⟨hout, n1⟩
    have hls : lsOf bs = (dec bs).getD [] := by unfold lsOf; rw [if_neg hlen]
    have her : erOf bs = (match dec bs with
      | none => 90
      | some _ => 0) := by unfold erOf; rw [if_neg hlen]
    unfold DecRes
    rw [hls, her]
    cases hd : dec bs with
    | none =>
      rw [hd] at hout
      subst hout
      exact ⟨_, rfl, [], none, 0, rfl, rfl, ct_nil _ _, Nat.le_refl _, by omega, n1⟩
    | some l =>
      rw [hd] at hout
      obtain ⟨ts, A', c', hts, rfl, hct, h1, h2⟩ := hout
      exact ⟨_, rfl, ts, A', c', hts, rfl, hct, h1, h2, n1⟩

/-! ### Told -/
def writeAll : List Ins → List UInt8 → Option (List UInt8)
  | [], bs => some bs
  | x :: l, bs => if (oneW x (bs, false)).2 = true then none else writeAll l (oneW x (bs, false)).1
def encR (l : List Ins) : Option (List UInt8) := match writeAll l [] with
  | none => none
  | some b => if dec b = some l ∧ b.length ≤ 4096 then some b else none
theorem encR_back {l : List Ins} {b : List UInt8} (h : encR l = some b) : dec b = some l ∧ b.length ≤ 4096 := by
  unfold encR at h
  split at h
  · cases h
  · split at h
    · rename_i hc
      cases h
      exact hc
    · cases h
theorem write_good : ∀ (l : List Ins) (bs : List UInt8), Chain bs.length l → (∀ x ∈ l, ∀ z ∈ targets x, 0 ≤ z ∧ z ≤ 65535) → writeAll l bs = some (bs ++ codeB bs.length l)
  | [], bs, _, _ => by simp [writeAll, codeB]
  | x :: l, bs, h, ht => by
    rw [writeAll, oneW_good bs x h.1 (ht x List.mem_cons_self), if_neg (show ¬ (false : Bool) = true by decide)]
    have hl : (bs ++ (insF bs.length).enc x).length = bs.length + ((insF bs.length).enc x).length := List.length_append
    rw [write_good l _ (by rw [hl]; exact h.2) (fun y hy => ht y (List.mem_cons_of_mem _ hy)), hl, codeB, List.append_assoc]
theorem encR_good {bs : List UInt8} {l : List Ins} (h : dec bs = some l) (hlen : bs.length ≤ 4096) : encR l = some bs := by
  obtain ⟨hc, hb, hne, hl⟩ := dec_bwd h
  have ht : ∀ x ∈ l, ∀ z ∈ targets x, 0 ≤ z ∧ z ≤ 65535 := fun x hx z hz => by
    unfold leads at hl
    simp only [List.all_eq_true, List.any_eq_true, decide_eq_true_eq] at hl
    obtain ⟨y, hy, hyz⟩ := hl x hx z hz
    obtain ⟨i, hi, rfl⟩ := List.getElem_of_mem hy
    have hp := chain_p l 0 i hc hi
    have := code_rise (l := l) (p := 0) (i := i) (j := l.length) (by omega)
    rw [List.take_length, ← hb] at this
    rw [hyz] at hp
    omega
  have := write_good l [] hc ht
  unfold encR
  rw [this, List.nil_append]
  show (if dec (codeB 0 l) = some l ∧ (codeB 0 l).length ≤ 4096 then some (codeB 0 l) else none) = some bs
  rw [← hb, if_pos ⟨h, hlen⟩]
def EncRes (w : World) (l : List Ins) (e : Ending) (w' : World) : Prop := (match encR l with
  | none => ∃ er : Int, er ≠ 0 ∧ e = .returned (.tuple #[.slice none 0 0, .int .i64 er])
  | some b => ∃ A c, e = .returned (.tuple #[.slice A b.length c, .int .i64 0]) ∧ Row w' A (bvs b) ∧ b.length ≤ c ∧ c ≤ 9223372036854775807) ∧ New w w'
theorem Encode_ok (A : Option Addr) (n c : Nat) (ts : List It) (w : World) (hn : n = ts.length) (hr : Ct w A ts) (hl : ts.length ≤ 6000) :
    Calls Try.prog 30 #[.slice A n c] w (EncRes w (ts.map (·.1))) := by
  subst hn
  refine enter ok Try.func30 rfl rfl rfl ?_
  have hA : ∀ a, A = some a → ts ≠ [] → a.block < w.heap.size := fun a ha hne => hr.row.lt (fun h => hne (by
    have := congrArg List.length h
    rw [itF_len] at this
    simp only [List.length_nil] at this
    exact List.length_eq_zero_iff.1 (by omega))) ha
  have no : ∀ {w' : World} (er : Int), er ≠ 0 → encR (ts.map (·.1)) = none → New w w' → EncRes w (ts.map (·.1)) (.returned (.tuple #[.slice none 0 0, .int .i64 er])) w' := fun {w'} er h1 h2 h3 => ⟨by rw [h2]; exact ⟨er, h1, rfl⟩, h3⟩
  refine seq_cut (σ := Unit) (fun _ => [(0, .slice A ts.length c)]) (fun _ w' => w' = w) ?_ ?_
  rotate_left
  · intro K hK
    exact hK () _ _ ⟨rfl, trivial⟩ rfl
  rintro _ w0 fr0 hw0
  obtain rfl := hw0.symm
  refine seq_cut (σ := Unit) (fun _ => [(0, .slice A ts.length c), (4, .pointer (some ⟨w.heap.size + 1, 0, none⟩))]) (fun _ w' => Cw w' w.heap.size (w.heap.size + 1) w.heap.size (.slice none 0 0) ([], false) ∧ New w w' ∧ w.heap.size + 2 ≤ w'.heap.size) ?_ ?_
  rotate_left
  · intro K hK
    refine call_ (Make_ok w) ?_
    rintro e w1 ⟨rfl, wr1, n1, s1⟩
    refine ⟨_, rfl, ?_⟩
    have n2 := New.alloc w1 (.cells #[.pointer (some ⟨w.heap.size, 0, none⟩), .bool false] 97)
    have hb2 := heap_alloc_new w1 (.cells #[.pointer (some ⟨w.heap.size, 0, none⟩), .bool false] 97)
    rw [s1] at hb2
    have z2 : (w1.alloc (.cells #[.pointer (some ⟨w.heap.size, 0, none⟩), .bool false] 97)).heap.size = w.heap.size + 2 := by simp [s1]
    exact hK () _ _ ⟨rfl, (show Value.pointer (some ⟨w1.heap.size, 0, none⟩) = _ by rw [s1]), trivial⟩ ⟨⟨hb2, wr1.new n2, by omega, fun h => by cases h⟩, n1.trans n2, Nat.le_of_eq z2.symm⟩
  rintro _ w1 fr1 ⟨c1, n1, z1⟩
  refine seq_cut (σ := Value × List UInt8) (fun _ => [(0, .slice A ts.length c), (4, .pointer (some ⟨w.heap.size + 1, 0, none⟩))]) (fun t w' => writeAll (ts.map (·.1)) [] = some t.2 ∧ Cw w' w.heap.size (w.heap.size + 1) w.heap.size t.1 (t.2, false) ∧ New w w' ∧ t.2.length ≤ 12540000) ?_ ?_
  rotate_left
  · intro K hK
    refine den_loop (σ := Nat × Value × List UInt8) (fun t => [(0, .slice A ts.length c), (4, .pointer (some ⟨w.heap.size + 1, 0, none⟩)), (13, .slice A ts.length c), (14, .int .i64 (ts.length : Int)), (15, .int .i64 (t.1 : Int))])
      (fun m t wl => m + t.1 = ts.length ∧ writeAll ((ts.map (·.1)).drop t.1) t.2.2 = writeAll (ts.map (·.1)) [] ∧ Cw wl w.heap.size (w.heap.size + 1) w.heap.size t.2.1 (t.2.2, false) ∧ New w wl ∧ w.heap.size + 2 ≤ wl.heap.size ∧ t.2.2.length ≤ 2090 * t.1) ts.length (0, .slice none 0 0, [])
      ⟨rfl, rfl, rfl, rfl, rfl, trivial⟩ ⟨rfl, rfl, c1, n1, z1, Nat.zero_le _⟩ ?_
    rintro m ⟨i, vl, bs⟩ wl frl ⟨hfuel, hwr, cl, kl, zl, hbl⟩
    dsimp only at hfuel hwr cl hbl
    refine if_p (fun hlt => ?_) (fun hge => ?_)
    · replace hlt : (i : Int) < (ts.length : Int) := hlt
      have hi : i < ts.length := by omega
      obtain ⟨m, rfl⟩ : ∃ m', m = m' + 1 := ⟨m - 1, by omega⟩
      have inc : Value.int .i64 (IntKind.i64.wrap ((i : Int) + 1)) = .int .i64 ((i + 1 : Nat) : Int) := by
        rw [wrap_i64 (by omega) (by omega)]
        rfl
      rw [List.drop_eq_getElem_cons (by simpa using hi), writeAll, List.getElem_map] at hwr
      have ctl := hr.new kl
      have cv := ctl.cs _ (List.getElem_mem hi)
      obtain ⟨aI, hAe, hcell⟩ := itF_row ctl.row hi
      refine And.intro (by omega) (And.intro hlt ?_)
      refine some_at hAe ?_
      refine loadN_row (vs := insC ts[i].1 ts[i].2) (fun k u hu => by rw [Int.toNat_natCast]; exact hcell k u hu) rfl ?_
      refine And.intro rfl ?_
      refine storeNew (vs := insC ts[i].1 ts[i].2) (arr := (insC ⟨0, 0, 0, 0, []⟩ nilC).toArray) rfl (insC_one _ cv.one) ?_
      intro w4 hb4 n4 s4
      refine loadN_row (vs := insC ts[i].1 ts[i].2) (rowB hb4) rfl ?_
      have c4 := cl.new n4
      have hoff : Off (WH (w.heap.size + 1) w.heap.size vl) ts[i].2 := fun a n c' e hn hW => by
        have hlow := (hr.cs _ (List.getElem_mem hi)).low e hn
        rcases hW with (hW | hW) | hW
        · omega
        · have := (c4.wr.own.lt _ hW.symm).1
          omega
        · omega
      refine call_ (wone_ok w.heap.size (w.heap.size + 1) w.heap.size vl (bs, false) ts[i].1 ts[i].2 w4 c4 (cv.new n4) hoff (by dsimp only; omega) (by omega)) ?_
      rintro e w6 ⟨rfl, v6, k6⟩
      refine ⟨_, rfl, ?_⟩
      have hgrow := oneW_len ts[i].1 (bs, false)
      dsimp only at hgrow
      have n6 : New w w6 := Mod.trans (kl.trans n4) k6.mod fun b hb e => by
        rcases e with (e | e) | e
        · omega
        · have := (c4.wr.own.lt _ e.symm).1
          omega
        · omega
      have c6 := k6.cw
      generalize oneW ts[i].1 (bs, false) = t6 at c6 hwr hgrow
      obtain ⟨bs6, bad6⟩ := t6
      dsimp only at c6 hwr hgrow
      refine Exists.intro bad6 (And.intro (cellB c6.blk rfl) ?_)
      refine if_ (fun hx => ?_) (fun hx => ?_)
      · rw [if_pos hx] at hwr
        refine no 90 (by decide) ?_ n6
        unfold encR
        rw [← hwr]
      · subst hx
        rw [if_neg (by decide)] at hwr
        have := k6.mod.size
        exact ⟨m, (i + 1, v6, bs6), by omega, ⟨rfl, rfl, rfl, rfl, inc, trivial⟩, by dsimp only; omega, hwr, c6, n6, by omega, by dsimp only; omega⟩
    · replace hge : ¬ (i : Int) < (ts.length : Int) := hge
      obtain rfl : i = ts.length := by omega
      rw [List.drop_of_length_le (by simp)] at hwr
      exact hK (vl, bs) _ _ ⟨rfl, rfl, trivial⟩ ⟨hwr.symm, cl, kl, by dsimp only; omega⟩
  rintro ⟨v, bs⟩ w2 fr2 ⟨hwr, c2, n2, hbl⟩
  dsimp only at hwr c2 hbl
  have henc : encR (ts.map (·.1)) = if dec bs = some (ts.map (·.1)) ∧ bs.length ≤ 4096 then some bs else none := by unfold encR; rw [hwr]
  clear hwr
  refine seq_cut (σ := Option Addr × Nat) (fun t => [(0, .slice A ts.length c), (7, .slice t.1 bs.length t.2)]) (fun t w' => New w w' ∧ Row w' t.1 (bvs bs) ∧ bs.length ≤ t.2 ∧ t.2 ≤ 9223372036854775807) ?_ ?_
  rotate_left
  · intro K hK
    refine Exists.intro (some ⟨w.heap.size, 0, none⟩) (And.intro (cellB c2.blk rfl) ?_)
    refine call_ (All_ok w.heap.size w.heap.size v bs w2 c2.wr (by omega)) ?_
    rintro e w3 ⟨u, rfl, own3, n3⟩
    obtain ⟨A3, c3, rfl, h1, h2, row3, _⟩ := own_slice own3
    refine ⟨_, rfl, ?_⟩
    exact hK (A3, c3) _ _ ⟨rfl, rfl, trivial⟩ ⟨n2.trans n3, row3, h1, h2⟩
  rintro ⟨A3, c3⟩ w3 fr3 ⟨n3, row3, h31, h32⟩
  dsimp only at row3 h31 h32
  refine seq_cut (σ := (Option Addr × Nat × Nat) × Int) (fun t => [(0, .slice A ts.length c), (7, .slice A3 bs.length c3), (8, .slice t.1.1 t.1.2.1 t.1.2.2), (9, .int .i64 t.2)])
    (fun t w' => New w3 w' ∧ (t.2 = 0 ∧ (∃ ts4, dec bs = some (ts4.map (·.1)) ∧ Ct w' t.1.1 ts4 ∧ t.1.2.1 = ts4.length) ∨ t.2 ≠ 0 ∧ dec bs = none)) ?_ ?_
  rotate_left
  · intro K hK
    refine call_ (decode_ok A3 _ c3 bs w3 rfl row3 h31 h32 (by omega)) ?_
    rintro e w4 ⟨hout, n4⟩
    cases hd : dec bs with
    | none =>
      rw [hd] at hout hK
      subst hout
      refine ⟨_, rfl, ?_⟩
      exact hK ((none, 0, 0), 90) _ _ ⟨rfl, rfl, rfl, rfl, trivial⟩ ⟨n4, .inr ⟨by decide, rfl⟩⟩
    | some l =>
      rw [hd] at hout hK
      obtain ⟨ts4, A4, c4, hts, rfl, hct, h1, h2⟩ := hout
      refine ⟨_, rfl, ?_⟩
      exact hK ((A4, ts4.length, c4), 0) _ _ ⟨rfl, rfl, rfl, rfl, trivial⟩ ⟨n4, .inl ⟨rfl, ts4, by rw [hts], hct, rfl⟩⟩
  rintro ⟨⟨A4, m4, c4⟩, er⟩ w4 fr4 ⟨n4, hor⟩
  dsimp only at hor
  refine seq_cut (σ := Unit) (fun _ => [(7, .slice A3 bs.length c3)]) (fun _ w' => New w3 w' ∧ encR (ts.map (·.1)) = some bs) ?_ ?_
  · rintro _ w5 fr5 ⟨n5, hs⟩
    unfold EncRes
    rw [hs]
    exact ⟨⟨A3, c3, rfl, row3.new n5, h31, h32⟩, n3.trans n5⟩
  intro K hK
  refine if_n (fun hne => ?_) (fun h0 => ?_)
  · replace hne : ¬ er = 0 := hne
    rcases hor with hor | hor
    · exact absurd hor.1 hne
    · refine no 90 (by decide) ?_ (n3.trans n4)
      rw [henc, hor.2, if_neg (fun h => by cases h.1)]
  replace h0 : er = 0 := h0
  rcases hor with hor | hor
  · obtain ⟨_, ts4, hd, ct4, hm4⟩ := hor
    refine call_ (eqFunc_ok A A4 _ m4 c c4 ts ts4 w4 rfl hm4 (hr.new (n3.trans n4)) ct4 (by omega)) ?_
    rintro e w5 ⟨rfl, n5⟩
    refine ⟨_, rfl, ?_⟩
    have k5 := n4.trans n5
    refine if_n (fun hne => ?_) (fun heq => ?_)
    · replace hne : ¬ ts.map (·.1) = ts4.map (·.1) := hne
      refine no 90 (by decide) ?_ (n3.trans k5)
      rw [henc, hd, if_neg (fun h => hne (Option.some.inj h.1).symm)]
    · replace heq : ts.map (·.1) = ts4.map (·.1) := heq
      rw [hd, heq] at henc
      refine if_p (fun hlt => ?_) (fun hge => ?_)
      · replace hlt : (4096 : Int) < (bs.length : Int) := hlt
        refine no 3 (by decide) ?_ (n3.trans k5)
        rw [heq, henc, if_neg (fun h => by have := h.2; omega)]
      · replace hge : ¬ (4096 : Int) < (bs.length : Int) := hge
        refine hK () _ _ ⟨rfl, trivial⟩ ⟨k5, ?_⟩
        rw [heq, henc, if_pos ⟨rfl, by omega⟩]
  · exact absurd h0 hor.1
end Go.Proofs.Ytcpeekeiflglpaa.Code

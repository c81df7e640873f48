/- The texts KPar3, KPar4, KPar5, KPar6, KTold, KSame, KWorks, KParses behind one another, merged by mrg.py; each says in its own place what it proves. -/
import Derived.Test.YtdcaafldnbcdkaaGreatDoorGZ5

/-! ### KPar3 -/
namespace Go.Proofs.YtdcaafldnbcdkaaGreatDoor.Class
open Go Go.Proofs.YtdcaafldnbcdkaaGreatDoor Go.Proofs.YtdcaafldnbcdkaaGreatDoor.Eng Go.Proofs Go.Proofs.YtdcaafldnbcdkaaGreatDoor.Word Go.Proofs.YtdcaafldnbcdkaaGreatDoor.Fmt
open Go.Proofs.YtdcaafldnbcdkaaGreatDoor.Pool (Ent at_ poolF strV entC entV EntOk Pl OkPool both own_low tagAt textS textE conC conE conCs conV conZ conCs_one)
set_option maxRecDepth 10000

/-- The document's reader of classes in memory. -/
structure Jr (w : World) (h : Nat) (A : Option Addr) (c : Nat) (bs : List UInt8) (p : Po) (s : RSt) : Prop where
  re : Re w h p.v (.bool s.2) A c bs s.1
  pl : Pl w p.A p.l.length p.l
  pd : ∀ a, p.A = some a → p.l ≠ [] → a.block ≠ h
section
variable {w w' w'' : World} {h : Nat} {A : Option Addr} {c : Nat} {bs : List UInt8} {p : Po} {s s' : RSt}
theorem Jr.lt (q : Jr w h A c bs p s) : h < w.heap.size := q.re.lt
theorem Jr.plt (q : Jr w h A c bs p s) : ∀ a, p.A = some a → p.l ≠ [] → a.block < w.heap.size := fun a ha hn => by
  have hr := row_of_rows2 q.pl.row
  refine hr.lt (fun e => hn ?_) ha
  have := congrArg List.length e
  cases hl : p.l with
  | nil => rfl
  | cons x r =>
    rw [hl] at this
    simp [entC] at this
theorem Jr.mod {S : Nat → Prop} (q : Jr w h A c bs p s) (q' : Jr w' h A c bs p s') (m : Mod S w' w'') (hS : ∀ b, S b → w.heap.size ≤ b) : Jr w'' h A c bs p s' :=
  ⟨q.re.fresh q'.re m hS, q'.pl.mod m (fun a ha hn e => by have := hS _ e; have := q.plt a ha hn; omega), q'.pd⟩
theorem Jr.new (q : Jr w h A c bs p s) (m : New w w') : Jr w' h A c bs p s := q.mod q m fun _ e => e.elim
/-- The place or the mark changes. -/
theorem Jr.to (q : Jr w h A c bs p s) (r : Re w' h p.v (.bool s'.2) A c bs s'.1) (m : Mod (fun b => b = h) w w') : Jr w' h A c bs p s' :=
  ⟨r, q.pl.mod m (fun a ha hn e => q.pd a ha hn e), q.pd⟩
/-- The mark is set. -/
theorem Jr.set (q : Jr w h A c bs p s) (m : Mod (fun b => b = h) w w') {b : Bool} (hb : w'.heap[h]? = some (.cells #[.slice A bs.length c, .int .i64 (s.1 : Int), p.v, .bool b] 66 (0, 0))) : Jr w' h A c bs p (s.1, b) :=
  q.to ⟨hb, row_mod2 m q.re.row (fun hn a ha e => q.re.off hn a ha e), q.re.off, q.re.at_, q.re.cap, q.re.top⟩ m
end
theorem Rd.val {α : Type} {T : Tell α} {bs : List UInt8} {s s1 : RSt} {x : α} (h : Rd T bs s x s1) (hb : s1.2 = true) (y : α) : Rd T bs s y s1 :=
  ⟨h.1, h.2.1, fun hs z q ho e => by have := (h.2.2 hs z q ho e).2.1; rw [hb] at this; cases this⟩
theorem uJ_ok (h : Nat) (A : Option Addr) (c : Nat) (bs : List UInt8) (p : Po) (s : RSt) (k : Nat) (hk : wide (k : Int) = true) (w : World) (q : Jr w h A c bs p s) :
    Calls Tryz.prog 23 #[.pointer (some ⟨h, 0, none⟩), .int .i64 (k : Int)] w fun e w' => ∃ n s', e = .returned (zi n) ∧ Rd (tF (Fmt.num k false hk)) bs s n s' ∧ (0 ≤ n ∧ n < 256 ^ k) ∧ On s s' ∧ Jr w' h A c bs p s' ∧ Mod (fun b => b = h) w w' := by
  obtain ⟨i, b⟩ := s
  have hat := q.re.at_
  refine enter ok Tryz.func23 rfl rfl rfl ?_
  refine seq_assign ?_
  refine seq_cut (σ := Unit) (fun _ => [(0, .pointer (some ⟨h, 0, none⟩)), (1, zi (k : Int))]) (fun _ w' => w' = w ∧ b = false) ?_ ?_
  rotate_left
  · intro K hK
    refine Exists.intro b (And.intro (cellB q.re.blk rfl) ?_)
    refine if_ (fun hne => ?_) (fun h0 => ?_)
    · subst hne
      exact ⟨0, (i, true), rfl, Rd.bad rfl hat 0, ⟨by decide, Int.pow_pos (by decide)⟩, ⟨Nat.le_refl _, .inr rfl, fun h => h⟩, q, (New.refl w).mod⟩
    · exact hK () _ _ ⟨rfl, rfl, trivial⟩ ⟨rfl, h0⟩
  rintro _ wy fry ⟨hwy, h0⟩
  obtain rfl := hwy.symm
  subst h0
  refine seq_cut (σ := Int × Int) (fun t => [(0, .pointer (some ⟨h, 0, none⟩)), (5, zi t.1), (6, zi t.2)]) (fun t w' => t.1 = (Word.get false bs i (k : Int)).1 ∧ t.2 = (Word.get false bs i (k : Int)).2.1 ∧ Re w' h p.v (.bool false) A c bs (Word.get false bs i (k : Int)).2.2 ∧ Mod (fun b => b = h) w w') ?_ ?_
  rotate_left
  · intro K hK
    refine call_ (ReGet_ok h p.v (.bool false) A c bs i k false w q.re) ?_
    rintro e w4 ⟨rfl, rd4, m4⟩
    refine ⟨_, rfl, ?_⟩
    exact hK ((Word.get false bs i (k : Int)).1, (Word.get false bs i (k : Int)).2.1) _ _ ⟨rfl, rfl, rfl, trivial⟩ ⟨rfl, rfl, rd4, m4⟩
  rintro ⟨n, er⟩ w4 fr4 ⟨hn, her, rd4, m4⟩
  dsimp only at hn her
  have hb4 := rd4.blk
  have r1 := Rd.num hk i hat
  have r2 := get_nat bs i k
  have r3 := get_on bs i k hk hat
  rw [← hn, ← her] at r1
  rw [← hn] at r2
  rw [← her] at r3
  have q4 : Jr w4 h A c bs p ((Word.get false bs i (k : Int)).2.2, false) := q.to rd4 m4
  refine And.intro ⟨_, cellB hb4 rfl⟩ (And.intro (fzB hb4 _) (force_ ?_))
  refine stK hb4 (show (3 : Nat) < 4 by decide) ?_
  intro w5 hb5 m5 s5
  exact ⟨n, ((Word.get false bs i (k : Int)).2.2, !decide (er = 0)), rfl, r1, r2, ⟨r1.1, r3, fun h => (by cases h)⟩, q4.set m5 hb5, both m4 m5⟩
theorem rd_utfJ {bs : List UInt8} {s s1 : RSt} {l : List Ent} {n : Int} (hO : OkPool l) (h : Rd Class.n2 bs s n s1) : Rd (utfT l) bs s (textS l n) (s1.1, s1.2 || !decide (textE l n = 0)) := by
  have ho : Pool.okB l = true := (Pool.okB_iff l).2 hO
  refine Rd.ref h fun t h0 h1 hp => ?_
  unfold utfP at hp
  rw [Bool.and_eq_true, decide_eq_true_eq, decide_eq_true_eq] at hp
  have ht : tagAt l n = 1 := by
    unfold tagAt
    rw [if_neg (by omega)]
    exact hp.1
  unfold textS textE
  rw [if_pos ho, if_pos ho, if_pos ht, if_pos ht]
  exact ⟨hp.2, by simp⟩
/-- A mark more. -/
theorem On.more {s s' : RSt} {b : Bool} (o : On s s') : On s (s'.1, s'.2 || b) := ⟨o.1, o.2.1.imp id fun e => by rw [e]; rfl, fun e => by rw [o.2.2 e]; rfl⟩
theorem utfJ_ok (h : Nat) (A : Option Addr) (c : Nat) (bs : List UInt8) (p : Po) (s : RSt) (w : World) (q : Jr w h A c bs p s) (hO : OkPool p.l) :
    Calls Tryz.prog 26 #[.pointer (some ⟨h, 0, none⟩)] w fun e w' => ∃ z s', e = .returned (strV z) ∧ Rd (utfT p.l) bs s z s' ∧ On s s' ∧ Jr w' h A c bs p s' ∧ Mod (fun b => b = h) w w' := by
  refine enter ok Tryz.func26 rfl rfl rfl ?_
  refine seq_assign ?_
  refine seq_cut (σ := List UInt8 × Int) (fun t => [(0, .pointer (some ⟨h, 0, none⟩)), (3, strV t.1), (4, zi t.2)]) (fun t w' => ∃ n s1, t = (textS p.l n, textE p.l n) ∧ Rd n2 bs s n s1 ∧ On s s1 ∧ Jr w' h A c bs p s1 ∧ Mod (fun b => b = h) w w') ?_ ?_
  rotate_left
  · intro K hK
    have hl : ∀ {w' : World} {s' : RSt}, Jr w' h A c bs p s' → w'.cell? ⟨h, 2, none⟩ = some p.v := fun q' => by rw [cell_of_row _ _ 2 _ _ _ q'.re.blk]; rfl
    have qd := q.new (New.drew w)
    refine draw_ (w := w) ok (.q 0 (.q 1 (.q 2 (.q 3 (.q 4 (.e 5 (.e 6 (.q 7 (.q 8 (.q 9 (.q 10 (.q 11 .done)))))))))))) [11] (fun w'' : World => w''.cell? ⟨h, 2, none⟩ = some p.v) (by kernel_rfl) (by kernel_rfl) (by kernel_rfl) (by kernel_rfl) (by kernel_rfl) (hl qd) ?_
    refine Exists.intro p.A (Exists.intro p.l.length (Exists.intro p.c (And.intro (fun w'' hw => by rw [ad1]; exact hw) ?_)))
    refine call_ (uJ_ok h A c bs p s 2 Pool.w2 w.drew qd) ?_
    rintro e w1 ⟨n, s1, rfl, rd1, hb, o1, q1, m1⟩
    refine ⟨_, rfl, ?_⟩
    refine Exists.intro (fun w'' : World => w''.cell? ⟨h, 2, none⟩ = some p.v) ?_
    refine And.intro (fun _ h => h) ?_
    refine And.intro (hl q1) ?_
    refine call_ (Pool.RText_ok p.A p.l.length p.c p.l n w1 q1.pl) ?_
    rintro e w2 ⟨rfl, n2⟩
    refine ⟨_, rfl, ?_⟩
    have q2 := q1.new n2
    refine Exists.intro (fun w'' : World => w''.cell? ⟨h, 2, none⟩ = some p.v) ?_
    refine And.intro (fun _ h => h) ?_
    refine And.intro (hl q2) ?_
    exact hK (textS p.l n, textE p.l n) _ _ ⟨rfl, rfl, rfl, trivial⟩ ⟨n, s1, rfl, rd1, o1, q2, Mod.trans (New.drew w).mod (m1.trans n2 fun _ _ e => False.elim e) fun _ _ e => e⟩
  rintro ⟨z, er⟩ w1 fr1 ⟨n, s1, ht, rd1, o1, q1, m1⟩
  obtain ⟨rfl, rfl⟩ := Prod.mk.inj ht
  have rd2 := rd_utfJ hO rd1
  have hb1 := q1.re.blk
  have fin : ∀ {w2 : World} {b : Bool}, b = (s1.2 || !decide (textE p.l n = 0)) → w2.heap[h]? = some (.cells #[.slice A bs.length c, .int .i64 (s1.1 : Int), p.v, .bool b] 66 (0, 0)) → Mod (fun b => b = h) w1 w2 → ∃ z s', Ending.returned (strV (textS p.l n)) = .returned (strV z) ∧ Rd (utfT p.l) bs s z s' ∧ On s s' ∧ Jr w2 h A c bs p s' ∧ Mod (fun b => b = h) w w2 := fun hb hb2 m2 => by
    subst hb
    exact ⟨_, _, rfl, rd2, o1.more, q1.set m2 hb2, both m1 m2⟩
  refine Exists.intro s1.2 (And.intro (cellB hb1 rfl) ?_)
  refine if_ (fun hx => ?_) (fun hx => ?_)
  · refine And.intro ⟨_, cellB hb1 rfl⟩ (And.intro (fzB hb1 _) (force_ ?_))
    refine stK hb1 (show (3 : Nat) < 4 by decide) ?_
    intro w2 hb2 m2 s2
    exact fin (by rw [hx]; rfl) hb2 m2
  · refine And.intro ⟨_, cellB hb1 rfl⟩ (And.intro (fzB hb1 _) (force_ ?_))
    refine stK hb1 (show (3 : Nat) < 4 by decide) ?_
    intro w2 hb2 m2 s2
    exact fin (by rw [hx]; rfl) hb2 m2
theorem rd_clsJ {bs : List UInt8} {s s1 : RSt} {l : List Ent} {n : Int} (hO : OkPool l) (h : Rd Class.n2 bs s n s1) : Rd (clsT l) bs s (conC l n).cl (s1.1, (s1.2 || !decide (conE l n = 0)) || !decide ((conC l n).tag = 7)) := by
  have ho : Pool.okB l = true := (Pool.okB_iff l).2 hO
  refine Rd.ref h fun t h0 h1 hp => ?_
  unfold clsP at hp
  rw [Bool.and_eq_true, decide_eq_true_eq, decide_eq_true_eq] at hp
  have ht : tagAt l n = 7 := by
    unfold tagAt
    rw [if_neg (by omega)]
    exact hp.1
  have hm : Pool.mean l n = ⟨7, 0, (at_ l (at_ l n).a).text, [], []⟩ := by
    unfold Pool.mean
    rw [if_neg (by omega), if_pos ht, ht]
  obtain ⟨e1, e2⟩ := Pool.conC_good n ho
  rw [e1, e2, hm]
  exact ⟨hp.2, by simp⟩
theorem clsJ_ok (h : Nat) (A : Option Addr) (c : Nat) (bs : List UInt8) (p : Po) (s s0 : RSt) (n : Int) (w : World) (q : Jr w h A c bs p s) (hO : OkPool p.l) (rd : Rd n2 bs s0 n s) (on : On s0 s) :
    Calls Tryz.prog 25 #[.pointer (some ⟨h, 0, none⟩), zi n] w fun e w' => ∃ z s', e = .returned (strV z) ∧ Rd (clsT p.l) bs s0 z s' ∧ On s0 s' ∧ Jr w' h A c bs p s' ∧ Mod (fun b => b = h) w w' := by
  refine enter ok Tryz.func25 rfl rfl rfl ?_
  refine seq_assign ?_
  refine seq_cut (σ := Nat × Int) (fun t => [(0, .pointer (some ⟨h, 0, none⟩)), (5, .pointer (some ⟨t.1, 0, none⟩)), (6, zi t.2)]) (fun t w' => t.2 = conE p.l n ∧ New w w' ∧ w'.heap[t.1]? = some (.cells (conCs (conC p.l n)).toArray 127 (0, 0)) ∧ w.heap.size ≤ t.1) ?_ ?_
  rotate_left
  · intro K hK
    refine Exists.intro p.A (Exists.intro p.l.length (Exists.intro p.c (And.intro (cellB q.re.blk rfl) ?_)))
    refine call_ (Pool.RConst_ok p.A p.l.length p.c p.l n w q.pl) ?_
    rintro e w1 ⟨rfl, n1⟩
    refine ⟨_, rfl, ?_⟩
    refine And.intro rfl ?_
    refine storeNew (vs := conCs (conC p.l n)) (arr := conZ) rfl (conCs_one _) ?_
    intro w2 hb2 n2 s2
    exact hK (w1.heap.size, conE p.l n) _ _ ⟨rfl, rfl, rfl, trivial⟩ ⟨rfl, n1.trans n2, hb2, n1.size⟩
  rintro ⟨X, er⟩ w1 fr1 ⟨her, n1, hX1, hXl⟩
  dsimp only at her hX1 hXl
  subst her
  have q1 := q.new n1
  have hb1 := q1.re.blk
  have hlt := q.lt
  have rd2 := rd_clsJ hO rd
  have fin : ∀ {w2 : World} {b : Bool}, b = ((s.2 || !decide (conE p.l n = 0)) || !decide ((conC p.l n).tag = 7)) → w2.heap[h]? = some (.cells #[.slice A bs.length c, .int .i64 (s.1 : Int), p.v, .bool b] 66 (0, 0)) → Mod (fun b => b = h) w1 w2 → ∃ z s', Ending.returned (strV (conC p.l n).cl) = .returned (strV z) ∧ Rd (clsT p.l) bs s0 z s' ∧ On s0 s' ∧ Jr w2 h A c bs p s' ∧ Mod (fun b => b = h) w w2 := fun hb hb2 m2 => by
    subst hb
    exact ⟨_, _, rfl, rd2, on.more.more, q1.set m2 hb2, Mod.trans n1.mod m2 fun _ _ e => e⟩
  refine Exists.intro s.2 (And.intro (cellB hb1 rfl) ?_)
  refine if_ (fun hx => ?_) (fun hx => ?_)
  · refine And.intro ⟨_, cellB hb1 rfl⟩ (And.intro (fzB hb1 _) (force_ ?_))
    refine stK hb1 (show (3 : Nat) < 4 by decide) ?_
    intro w2 hb2 m2 s2
    refine Exists.intro (⟨(conC p.l n).cl.toArray⟩ : ByteArray) (And.intro (cellB (m2.blk hX1 (by omega)) rfl) ?_)
    exact fin (by rw [hx]; rfl) hb2 m2
  · refine if_n (fun he => ?_) (fun he => ?_)
    · replace he : ¬ conE p.l n = 0 := he
      refine And.intro ⟨_, cellB hb1 rfl⟩ (And.intro (fzB hb1 _) (force_ ?_))
      refine stK hb1 (show (3 : Nat) < 4 by decide) ?_
      intro w2 hb2 m2 s2
      refine Exists.intro (⟨(conC p.l n).cl.toArray⟩ : ByteArray) (And.intro (cellB (m2.blk hX1 (by omega)) rfl) ?_)
      exact fin (by rw [hx, decide_eq_false he]; rfl) hb2 m2
    · replace he : conE p.l n = 0 := he
      refine Exists.intro (conC p.l n).tag (And.intro (cellB hX1 rfl) ?_)
      refine And.intro ⟨_, cellB hb1 rfl⟩ (And.intro (fzB hb1 _) (force_ ?_))
      refine stK hb1 (show (3 : Nat) < 4 by decide) ?_
      intro w2 hb2 m2 s2
      refine Exists.intro (⟨(conC p.l n).cl.toArray⟩ : ByteArray) (And.intro (cellB (m2.blk hX1 (by omega)) rfl) ?_)
      exact fin (by rw [hx, decide_eq_true he]; rfl) hb2 m2
/-- What is read of types that were told. -/
def gT (b : Bool) (acc : List Ty) : List Ty := if b then locIn acc else acc
theorem gT_len (b : Bool) (acc : List Ty) : (gT b acc).length ≤ 2 * acc.length := by
  cases b with
  | false => show acc.length ≤ _; omega
  | true => exact locIn_len acc
theorem gT_snoc (b : Bool) (acc : List Ty) (x : Ty) : gT b (acc ++ [x]) = gT b acc ++ (if b = true ∧ x.kind = 2 then [x, ty0] else [x]) := by
  cases b with
  | false => rfl
  | true =>
    show locIn (acc ++ [x]) = locIn acc ++ _
    rw [locIn_snoc]
    by_cases h : x.kind = 2
    · rw [if_pos h, if_pos ⟨rfl, h⟩]
    · rw [if_neg h, if_neg fun e => h e.2]
theorem rd_tT {b : Bool} {l : List Ent} {bs : List UInt8} {s s1 : RSt} {acc : List Ty} (h : Rd (stkT l) bs s acc s1) : Rd (tT b l) bs s (gT b acc) s1 := by
  cases b with
  | false => exact h
  | true => exact Rd.to (hf := fun x y hx hy e => loc_inj x y false hx.2 hy.2 e) locIn (fun y hP _ => locIn_out y hP.2) h
/-- A kind alone. -/
theorem rd_kind {l : List Ent} {bs : List UInt8} {s s1 : RSt} {n k : Int} (h : Rd n1 bs s n s1) (hk : kindIx n = k) (h4 : k ≠ 4) : Rd (tyT l) bs s ⟨k, []⟩ s1 := by
  have rk : Rd kindT bs s (kindIx n) s1 := Rd.to kindIx (fun y hy _ => kindIx_no hy) h
  rw [hk] at rk
  refine rd_ty (rk.dseq (y := []) ?_)
  rw [if_neg h4]
  exact Rd.nil rk.2.1
/-- A kind with a name. -/
theorem rd_named {l : List Ent} {bs : List UInt8} {s s1 s2 : RSt} {n : Int} {z : List UInt8} (h : Rd n1 bs s n s1) (hk : kindIx n = 4) (k : Rd (clsT l) bs s1 z s2) : Rd (tyT l) bs s ⟨4, z⟩ s2 := by
  have rk : Rd kindT bs s (kindIx n) s1 := Rd.to kindIx (fun y hy _ => kindIx_no hy) h
  rw [hk] at rk
  refine rd_ty (rk.dseq (y := z) ?_)
  rw [if_pos rfl]
  exact k
/-- No kind. -/
theorem rd_nokind {l : List Ent} {bs : List UInt8} {s s1 : RSt} {n : Int} (h : Rd n1 bs s n s1) (hk : kindIx n = -1) : Rd (tyT l) bs s ⟨-1, []⟩ (s1.1, true) := by
  have rk : Rd kindT bs s (kindIx n) s1 := Rd.to kindIx (fun y hy _ => kindIx_no hy) h
  rw [hk] at rk
  have rk2 : Rd kindT bs s (-1) (s1.1, true) := rk.mark fun o => absurd o.1 (by decide)
  refine rd_ty (rk2.dseq (y := []) ?_)
  rw [if_neg (by decide)]
  exact Rd.nil rk2.2.1

end Go.Proofs.YtdcaafldnbcdkaaGreatDoor.Class

/-! ### KPar4 -/
namespace Go.Proofs.YtdcaafldnbcdkaaGreatDoor.Class
open Go Go.Proofs.YtdcaafldnbcdkaaGreatDoor Go.Proofs.YtdcaafldnbcdkaaGreatDoor.Eng Go.Proofs Go.Proofs.YtdcaafldnbcdkaaGreatDoor.Word Go.Proofs.YtdcaafldnbcdkaaGreatDoor.Fmt
open Go.Proofs.YtdcaafldnbcdkaaGreatDoor.Pool (Ent at_ poolF strV entC entV EntOk Pl OkPool both own_low tagAt)
set_option maxRecDepth 10000

theorem typesJ_ok (h : Nat) (A : Option Addr) (c : Nat) (bs : List UInt8) (p : Po) (s : RSt) (b : Bool) (w0 : World) (q : Jr w0 h A c bs p s) (hO : OkPool p.l) (hm : bs.length ≤ 1000000) :
    Calls Tryz.prog 69 #[.pointer (some ⟨h, 0, none⟩), .bool b] w0 fun e w' => ∃ v xs s', e = .returned v ∧ LRep tyR w' (fun q => q < w0.heap.size) v xs ∧ Rd (tT b p.l) bs s xs s' ∧ xs.length ≤ 2 * ((s'.1 - s.1) + 1) ∧ On s s' ∧ Jr w' h A c bs p s' ∧ Mod (fun q => q = h) w0 w' := by
  have hlt := q.lt
  refine enter ok Tryz.func69 rfl rfl rfl ?_
  refine seq_assign ?_
  refine seq_cut (σ := Option Addr × Nat) (fun t => [(0, .pointer (some ⟨h, 0, none⟩)), (1, .bool b), (5, .slice t.1 0 t.2)]) (fun t w' => New w0 w' ∧ w'.ownsRow w0.heap.size 101 2 (.slice t.1 0 t.2) 0 []) ?_ ?_
  rotate_left
  · intro K hK
    exact hK (some ⟨w0.heap.size, 0, none⟩, 0) _ _ ⟨rfl, rfl, rfl, trivial⟩ ⟨New.alloc w0 (.cells #[] 101), own_lit w0 [] 101 2 0 w0.heap.size (Nat.le_refl _) rfl (by omega)⟩
  rintro ⟨A1, c1⟩ w1 fr1 ⟨nw1, own1⟩
  dsimp only at own1
  have q1 := q.new nw1
  refine seq_cut (σ := (Option Addr × Nat) × List Ty) (fun t => [(5, .slice t.1.1 t.2.length t.1.2)]) (fun t w' => ∃ s', w'.ownsRow w0.heap.size 101 2 (.slice t.1.1 t.2.length t.1.2) t.2.length (cellsOf (t.2.map fun y => ([zi y.kind, strV y.name], y))) ∧ Rd (tT b p.l) bs s t.2 s' ∧ t.2.length ≤ 2 * ((s'.1 - s.1) + 1) ∧ t.2.length ≤ 1000000 * 4 ∧ On s s' ∧ Jr w' h A c bs p s' ∧ Mod (fun q => q = h) w0 w') ?_ ?_
  · rintro ⟨⟨A2, c2⟩, mem⟩ w2 fr2 ⟨s2, own2, rd2, hc2, hc3, on2, q2, m2⟩
    dsimp only at own2 rd2 hc2 hc3
    refine ⟨_, mem, s2, rfl, ?_, rd2, hc2, on2, q2, m2⟩
    obtain ⟨_, _, he, hcap1, hcap2, row, hlow⟩ := own_slice own2
    cases he
    refine ⟨A2, c2, mem.map fun y => ([zi y.kind, strV y.name], y), rfl, (by rw [List.map_map]; exact List.map_id _), hcap1, hcap2, by omega, row, fun a ha hn => ?_, fun q hq => ?_⟩
    · have h1 := own2.lt a.block (by subst ha; rfl)
      exact ⟨h1.2, by have := h1.1; omega⟩
    · obtain ⟨y, _, rfl⟩ := List.mem_map.1 hq
      rfl
  intro K hK
  refine seq_cut (σ := Int) (fun n => [(0, .pointer (some ⟨h, 0, none⟩)), (1, .bool b), (5, .slice A1 0 c1), (6, zi n)]) (fun n w' => ∃ s1, Rd n2 bs s n s1 ∧ (0 ≤ n ∧ n < 65536) ∧ On s s1 ∧ Jr w' h A c bs p s1 ∧ Mod (fun q => q = h) w1 w') ?_ ?_
  rotate_left
  · intro K2 hK2
    refine call_ (uJ_ok h A c bs p s 2 Pool.w2 w1 q1) ?_
    rintro e w2 ⟨n, s1, rfl, rd1, hb, o1, p1, m1⟩
    refine ⟨_, rfl, ?_⟩
    exact hK2 n _ _ ⟨rfl, rfl, rfl, rfl, trivial⟩ ⟨s1, rd1, hb, o1, p1, m1⟩
  rintro n w2 fr2 ⟨s1, rd1, hn, o1, p1, m12⟩
  have m2 : Mod (fun q => q = h) w0 w2 := Mod.trans nw1.mod m12 fun _ _ e => e
  have own2 := own_mod m12 own1 (fun k hk e => by have := (own1.lt k hk).1; omega)
  refine den_loop (σ := ((Option Addr × Nat) × List Ty) × List Ty × Int × RSt) (fun t => [(0, .pointer (some ⟨h, 0, none⟩)), (1, .bool b), (5, .slice t.1.1.1 t.1.2.length t.1.1.2), (6, zi t.2.2.1)])
    (fun m t wl => m = t.2.2.1.toNat ∧ LRd (tyT p.l) 64 bs s t.2.1 t.2.2.1.toNat t.2.2.2 ∧ t.2.2.1.toNat + t.2.1.length ≤ 65536 ∧ t.2.2.1 ≤ 65536 ∧ On s t.2.2.2 ∧ Jr wl h A c bs p t.2.2.2 ∧ Mod (fun q => q = h) w0 wl ∧ LCo cTy 0 3 s t.2.1 t.2.2.2 ∧ wl.ownsRow w0.heap.size 101 2 (.slice t.1.1.1 t.1.2.length t.1.1.2) t.1.2.length (cellsOf (t.1.2.map fun y => ([zi y.kind, strV y.name], y))) ∧ t.1.2.length ≤ 2 * t.2.1.length ∧ (t.2.2.2.2 = false → t.1.2 = gT b t.2.1)) n.toNat (((A1, c1), []), [], n, s1)
    ⟨rfl, rfl, rfl, rfl, trivial⟩ ⟨rfl, LRd.start (by decide) rd1, by simp; omega, by dsimp only; omega, o1, p1, m2, LCo.start, own2, Nat.le_refl _, fun _ => by cases b <;> rfl⟩ ?_
  rintro m ⟨⟨⟨Al, cl⟩, mem⟩, acc, z, s2⟩ wl frl ⟨rfl, hinv, hcnt, hz65, on2, pl, kl, hco, own, hml, hme⟩
  dsimp only at hinv hcnt hz65 on2 pl kl hco own hml hme
  have klz := kl.size
  have hs2 := pl.re.at_
  refine seq_cut (σ := Unit) (fun _ => [(0, .pointer (some ⟨h, 0, none⟩)), (1, .bool b), (5, .slice Al mem.length cl), (6, zi z)]) (fun _ w' => w' = wl ∧ 0 < z ∧ s2.2 = false) ?_ ?_
  rotate_left
  · intro K2 hK2
    have fin : (s2.2 = false → z.toNat = 0) → id (∃ s', wl.ownsRow w0.heap.size 101 2 (.slice Al mem.length cl) mem.length (cellsOf (mem.map fun y => ([zi y.kind, strV y.name], y))) ∧ Rd (tT b p.l) bs s mem s' ∧ mem.length ≤ 2 * ((s'.1 - s.1) + 1) ∧ mem.length ≤ 1000000 * 4 ∧ On s s' ∧ Jr wl h A c bs p s' ∧ Mod (fun q => q = h) w0 wl) := fun hz => by
      have hle := hco.le.2
      refine ⟨s2, own, ?_, by omega, by omega, on2, pl, kl⟩
      have hd := rd_tT (b := b) (hinv.done (hb := by decide) hz)
      cases hb2 : s2.2 with
      | true => exact hd.val hb2 mem
      | false => rw [hme hb2]; exact hd
    refine if_p (fun hlt => ?_) (fun hge => ?_)
    · replace hlt : 0 < z := hlt
      refine Exists.intro s2.2 (And.intro (cellB pl.re.blk rfl) ?_)
      refine if_ (fun hz => ?_) (fun hz => ?_)
      · replace hz : s2.2 = false := by simpa using hz
        exact hK2 () _ _ ⟨rfl, rfl, rfl, rfl, trivial⟩ ⟨rfl, hlt, hz⟩
      · replace hz : s2.2 = true := by simpa using hz
        exact hK ((Al, cl), mem) _ _ ⟨rfl, trivial⟩ (fin fun h => by rw [hz] at h; cases h)
    · replace hge : ¬ 0 < z := hge
      exact hK ((Al, cl), mem) _ _ ⟨rfl, trivial⟩ (fin fun _ => by omega)
  rintro _ wy fry ⟨hwy, hlt, hgood⟩
  obtain rfl := hwy.symm
  obtain ⟨k, hk⟩ : ∃ k, z.toNat = k + 1 := ⟨z.toNat - 1, by omega⟩
  rw [hk] at hinv
  have hk' : (z - 1).toNat = k := by omega
  have hmem := hme hgood
  refine seq_cut (σ := ((Option Addr × Nat) × List Ty) × Ty × RSt) (fun t => [(0, .pointer (some ⟨h, 0, none⟩)), (1, .bool b), (5, .slice t.1.1.1 t.1.2.length t.1.1.2), (6, zi z)]) (fun t w' => Rd (tyT p.l) bs s2 t.2.1 t.2.2 ∧ On s2 t.2.2 ∧ Jr w' h A c bs p t.2.2 ∧ Mod (fun q => q = h) w0 w' ∧ w'.ownsRow w0.heap.size 101 2 (.slice t.1.1.1 t.1.2.length t.1.1.2) t.1.2.length (cellsOf (t.1.2.map fun y => ([zi y.kind, strV y.name], y))) ∧ t.1.2.length ≤ 2 * (acc.length + 1) ∧ (t.2.2.2 = false → t.1.2 = gT b (acc ++ [t.2.1]))) ?_ ?_
  · rintro ⟨⟨⟨A7, c7⟩, mem7⟩, x, s7⟩ w7 fr7 ⟨rd7, on7, q7, m7, own7, hl7, he7⟩
    dsimp only at rd7 on7 q7 own7 hl7 he7
    refine ⟨(z - 1).toNat, (((A7, c7), mem7), acc ++ [x], z - 1, s7), (by dsimp only; omega), ⟨rfl, rfl, rfl, (show zi (IntKind.i64.wrap (z - 1)) = zi (z - 1) by rw [wrap_i64 (by omega) (by omega)]), trivial⟩, rfl, ?_, ?_, by dsimp only; omega, on2.trans on7, q7, m7, ?_, own7, ?_, he7⟩
    · dsimp only
      rw [hk']
      exact hinv.step rd7
    · dsimp only
      rw [List.length_append, List.length_singleton]
      omega
    · dsimp only
      exact hco.step hinv.1 hgood (by show 3 ≤ _; omega) on7
    · dsimp only
      rw [List.length_append, List.length_singleton]
      exact hl7
  intro K3 hK3
  refine block_ ?_
  refine seq_cut (σ := Int) (fun n => [(0, .pointer (some ⟨h, 0, none⟩)), (1, .bool b), (5, .slice Al mem.length cl), (6, zi z), (22, zi n)]) (fun n w' => ∃ s3, Rd n1 bs s2 n s3 ∧ On s2 s3 ∧ Jr w' h A c bs p s3 ∧ Mod (fun q => q = h) w0 w' ∧ w'.ownsRow w0.heap.size 101 2 (.slice Al mem.length cl) mem.length (cellsOf (mem.map fun y => ([zi y.kind, strV y.name], y)))) ?_ ?_
  rotate_left
  · intro K4 hK4
    refine call_ (uJ_ok h A c bs p s2 1 Pool.w1 wl pl) ?_
    rintro e w3 ⟨n, s3, rfl, rd3, hb, o3, p3, m3⟩
    refine ⟨_, rfl, ?_⟩
    exact hK4 n _ _ ⟨rfl, rfl, rfl, rfl, rfl, trivial⟩ ⟨s3, rd3, o3, p3, both kl m3, own_mod m3 own (fun q hq e => by have := (own.lt q hq).1; omega)⟩
  rintro n w3 fr3 ⟨s3, rd3, on3, q3, m3, own3⟩
  have m3z := m3.size
  have hlacc := hco.le.2
  refine block_ ?_
  -- what an append leaves
  have low : ∀ {wx w' : World} {xs : List Ty} {Ax : Option Addr} {cx : Nat} {sx : RSt}, Jr wx h A c bs p sx → Mod (fun q => q = h) w0 wx → wx.ownsRow w0.heap.size 101 2 (.slice Ax xs.length cx) xs.length (cellsOf (xs.map fun y => ([zi y.kind, strV y.name], y))) → ∀ {w6 : World}, New wx w6 → Mod (fun q => some q = (Value.slice Ax xs.length cx).ownBlock) w6 w' → Jr w' h A c bs p sx ∧ Mod (fun q => q = h) w0 w' := fun qx mx ox w6 n6 m => by
    have hk := Mod.trans n6.mod m (S := fun q => some q = (Value.slice _ _ _).ownBlock) fun _ _ e => e
    have hs := mx.size
    refine ⟨q.mod qx hk (fun b e => (ox.lt b e.symm).1), Mod.trans mx hk fun b hb e => ?_⟩
    have := (ox.lt b e.symm).1
    omega
  refine if_p (fun h0 => ?_) (fun h0 => ?_)
  · replace h0 : n = 0 := h0
    have rdk := rd_kind (l := p.l) (k := 0) rd3 (by rw [h0]; rfl) (by decide)
    have n6 := New.alloc w3 (.cells [zi (⟨0, []⟩ : Ty).kind, strV (⟨0, []⟩ : Ty).name].toArray 101)
    have hx6 := m3.size
    refine append2_ ok rfl rfl rfl rfl (own_new n6 own3) rfl rfl (row_alloc w3 [zi (⟨0, []⟩ : Ty).kind, strV (⟨0, []⟩ : Ty).name] _ _) rfl (tyOk.one (w := w3) (S := fun _ => False) (x := (⟨0, []⟩ : Ty)) rfl) (by decide) rfl (by show (mem.length + 1) * 24 ≤ _; omega) (by omega) (Nat.le_trans hx6 n6.size) ?_
    intro A7 c7 w7 own7 mod7 st7
    obtain ⟨q7, m7⟩ := low q3 m3 own3 n6 mod7
    have hl7 : (mem ++ [(⟨0, []⟩ : Ty)]).length = mem.length + 1 := by simp
    have own8 : w7.ownsRow w0.heap.size 101 2 (.slice A7 (mem ++ [(⟨0, []⟩ : Ty)]).length c7) (mem ++ [(⟨0, []⟩ : Ty)]).length (cellsOf ((mem ++ [(⟨0, []⟩ : Ty)]).map fun y => ([zi y.kind, strV y.name], y))) := by
      rw [hl7, List.map_append, List.map_cons, List.map_nil, cellsOf_snoc]
      exact own7
    have sl7 : Value.slice A7 (mem.length + 1) c7 = .slice A7 (mem ++ [(⟨0, []⟩ : Ty)]).length c7 := by rw [hl7]
    exact hK3 (((A7, c7), mem ++ [(⟨0, []⟩ : Ty)]), (⟨0, []⟩ : Ty), s3) _ _ ⟨rfl, rfl, sl7, rfl, trivial⟩ ⟨rdk, on3, q7, m7, own8, by dsimp only; rw [hl7]; omega, fun _ => by dsimp only; rw [gT_snoc, hmem, if_neg (by rintro ⟨_, e⟩; exact absurd e (by decide))]⟩
  replace h0 : ¬ n = 0 := h0
  refine if_p (fun h1 => ?_) (fun h1 => ?_)
  · replace h1 : n = 1 := h1
    have rdk := rd_kind (l := p.l) (k := 1) rd3 (by rw [h1]; rfl) (by decide)
    have n6 := New.alloc w3 (.cells [zi (⟨1, []⟩ : Ty).kind, strV (⟨1, []⟩ : Ty).name].toArray 101)
    have hx6 := m3.size
    refine append2_ ok rfl rfl rfl rfl (own_new n6 own3) rfl rfl (row_alloc w3 [zi (⟨1, []⟩ : Ty).kind, strV (⟨1, []⟩ : Ty).name] _ _) rfl (tyOk.one (w := w3) (S := fun _ => False) (x := (⟨1, []⟩ : Ty)) rfl) (by decide) rfl (by show (mem.length + 1) * 24 ≤ _; omega) (by omega) (Nat.le_trans hx6 n6.size) ?_
    intro A7 c7 w7 own7 mod7 st7
    obtain ⟨q7, m7⟩ := low q3 m3 own3 n6 mod7
    have hl7 : (mem ++ [(⟨1, []⟩ : Ty)]).length = mem.length + 1 := by simp
    have own8 : w7.ownsRow w0.heap.size 101 2 (.slice A7 (mem ++ [(⟨1, []⟩ : Ty)]).length c7) (mem ++ [(⟨1, []⟩ : Ty)]).length (cellsOf ((mem ++ [(⟨1, []⟩ : Ty)]).map fun y => ([zi y.kind, strV y.name], y))) := by
      rw [hl7, List.map_append, List.map_cons, List.map_nil, cellsOf_snoc]
      exact own7
    have sl7 : Value.slice A7 (mem.length + 1) c7 = .slice A7 (mem ++ [(⟨1, []⟩ : Ty)]).length c7 := by rw [hl7]
    exact hK3 (((A7, c7), mem ++ [(⟨1, []⟩ : Ty)]), (⟨1, []⟩ : Ty), s3) _ _ ⟨rfl, rfl, sl7, rfl, trivial⟩ ⟨rdk, on3, q7, m7, own8, by dsimp only; rw [hl7]; omega, fun _ => by dsimp only; rw [gT_snoc, hmem, if_neg (by rintro ⟨_, e⟩; exact absurd e (by decide))]⟩
  replace h1 : ¬ n = 1 := h1
  refine if_p (fun h4 => ?_) (fun h4 => ?_)
  · replace h4 : n = 4 := h4
    have rdk := rd_kind (l := p.l) (k := 2) rd3 (by rw [h4]; rfl) (by decide)
    refine seq_cut (σ := Option Addr × Nat) (fun t => [(0, .pointer (some ⟨h, 0, none⟩)), (1, .bool b), (5, .slice t.1 (mem ++ [(⟨2, []⟩ : Ty)]).length t.2), (6, zi z)]) (fun t w' => Jr w' h A c bs p s3 ∧ Mod (fun q => q = h) w0 w' ∧ w'.ownsRow w0.heap.size 101 2 (.slice t.1 (mem ++ [(⟨2, []⟩ : Ty)]).length t.2) (mem ++ [(⟨2, []⟩ : Ty)]).length (cellsOf ((mem ++ [(⟨2, []⟩ : Ty)]).map fun y => ([zi y.kind, strV y.name], y)))) ?_ ?_
    rotate_left
    · intro K4 hK4
      have n6 := New.alloc w3 (.cells [zi (⟨2, []⟩ : Ty).kind, strV (⟨2, []⟩ : Ty).name].toArray 101)
      have hx6 := m3.size
      refine append2_ ok rfl rfl rfl rfl (own_new n6 own3) rfl rfl (row_alloc w3 [zi (⟨2, []⟩ : Ty).kind, strV (⟨2, []⟩ : Ty).name] _ _) rfl (tyOk.one (w := w3) (S := fun _ => False) (x := (⟨2, []⟩ : Ty)) rfl) (by decide) rfl (by show (mem.length + 1) * 24 ≤ _; omega) (by omega) (Nat.le_trans hx6 n6.size) ?_
      intro A7 c7 w7 own7 mod7 st7
      obtain ⟨q7, m7⟩ := low q3 m3 own3 n6 mod7
      have hl7 : (mem ++ [(⟨2, []⟩ : Ty)]).length = mem.length + 1 := by simp
      have own8 : w7.ownsRow w0.heap.size 101 2 (.slice A7 (mem ++ [(⟨2, []⟩ : Ty)]).length c7) (mem ++ [(⟨2, []⟩ : Ty)]).length (cellsOf ((mem ++ [(⟨2, []⟩ : Ty)]).map fun y => ([zi y.kind, strV y.name], y))) := by
        rw [hl7, List.map_append, List.map_cons, List.map_nil, cellsOf_snoc]
        exact own7
      have sl7 : Value.slice A7 (mem.length + 1) c7 = .slice A7 (mem ++ [(⟨2, []⟩ : Ty)]).length c7 := by rw [hl7]
      exact hK4 (A7, c7) _ _ ⟨rfl, rfl, sl7, rfl, trivial⟩ ⟨q7, m7, own8⟩
    rintro ⟨A4, c4⟩ w4 fr4 ⟨q4, m4, own4⟩
    dsimp only at own4
    have hl4 : (mem ++ [(⟨2, []⟩ : Ty)]).length = mem.length + 1 := by simp
    refine if_ (fun hbt => ?_) (fun hbt => ?_)
    · subst hbt
      have n6 := New.alloc w4 (.cells [zi ty0.kind, strV ty0.name].toArray 101)
      have hx6 := m4.size
      refine append2_ ok rfl rfl rfl rfl (own_new n6 own4) rfl rfl (row_alloc w4 [zi ty0.kind, strV ty0.name] _ _) rfl (tyOk.one (w := w4) (S := fun _ => False) (x := ty0) rfl) (by decide) rfl (by show ((mem ++ [(⟨2, []⟩ : Ty)]).length + 1) * 24 ≤ _; omega) (by omega) (Nat.le_trans hx6 n6.size) ?_
      intro A7 c7 w7 own7 mod7 st7
      obtain ⟨q7, m7⟩ := low q4 m4 own4 n6 mod7
      have hl7 : ((mem ++ [(⟨2, []⟩ : Ty)]) ++ [ty0]).length = (mem ++ [(⟨2, []⟩ : Ty)]).length + 1 := by simp
      have own8 : w7.ownsRow w0.heap.size 101 2 (.slice A7 ((mem ++ [(⟨2, []⟩ : Ty)]) ++ [ty0]).length c7) ((mem ++ [(⟨2, []⟩ : Ty)]) ++ [ty0]).length (cellsOf (((mem ++ [(⟨2, []⟩ : Ty)]) ++ [ty0]).map fun y => ([zi y.kind, strV y.name], y))) := by
        rw [hl7, List.map_append, List.map_cons, List.map_nil, cellsOf_snoc]
        exact own7
      have sl7 : Value.slice A7 ((mem ++ [(⟨2, []⟩ : Ty)]).length + 1) c7 = .slice A7 ((mem ++ [(⟨2, []⟩ : Ty)]) ++ [ty0]).length c7 := by rw [hl7]
      refine hK3 (((A7, c7), (mem ++ [(⟨2, []⟩ : Ty)]) ++ [ty0]), (⟨2, []⟩ : Ty), s3) _ _ ⟨rfl, rfl, sl7, rfl, trivial⟩ ⟨rdk, on3, q7, m7, own8, by dsimp only; rw [hl7, hl4]; omega, fun _ => ?_⟩
      dsimp only
      rw [gT_snoc, hmem, if_pos ⟨rfl, rfl⟩, List.append_assoc]
      rfl
    · refine hK3 (((A4, c4), mem ++ [(⟨2, []⟩ : Ty)]), (⟨2, []⟩ : Ty), s3) _ _ ⟨rfl, rfl, rfl, rfl, trivial⟩ ⟨rdk, on3, q4, m4, own4, by dsimp only; rw [hl4]; omega, fun _ => ?_⟩
      dsimp only
      rw [gT_snoc, hmem, if_neg (by rintro ⟨e, _⟩; rw [hbt] at e; cases e)]
  replace h4 : ¬ n = 4 := h4
  refine if_p (fun h5 => ?_) (fun h5 => ?_)
  · replace h5 : n = 5 := h5
    have rdk := rd_kind (l := p.l) (k := 3) rd3 (by rw [h5]; rfl) (by decide)
    have n6 := New.alloc w3 (.cells [zi (⟨3, []⟩ : Ty).kind, strV (⟨3, []⟩ : Ty).name].toArray 101)
    have hx6 := m3.size
    refine append2_ ok rfl rfl rfl rfl (own_new n6 own3) rfl rfl (row_alloc w3 [zi (⟨3, []⟩ : Ty).kind, strV (⟨3, []⟩ : Ty).name] _ _) rfl (tyOk.one (w := w3) (S := fun _ => False) (x := (⟨3, []⟩ : Ty)) rfl) (by decide) rfl (by show (mem.length + 1) * 24 ≤ _; omega) (by omega) (Nat.le_trans hx6 n6.size) ?_
    intro A7 c7 w7 own7 mod7 st7
    obtain ⟨q7, m7⟩ := low q3 m3 own3 n6 mod7
    have hl7 : (mem ++ [(⟨3, []⟩ : Ty)]).length = mem.length + 1 := by simp
    have own8 : w7.ownsRow w0.heap.size 101 2 (.slice A7 (mem ++ [(⟨3, []⟩ : Ty)]).length c7) (mem ++ [(⟨3, []⟩ : Ty)]).length (cellsOf ((mem ++ [(⟨3, []⟩ : Ty)]).map fun y => ([zi y.kind, strV y.name], y))) := by
      rw [hl7, List.map_append, List.map_cons, List.map_nil, cellsOf_snoc]
      exact own7
    have sl7 : Value.slice A7 (mem.length + 1) c7 = .slice A7 (mem ++ [(⟨3, []⟩ : Ty)]).length c7 := by rw [hl7]
    exact hK3 (((A7, c7), mem ++ [(⟨3, []⟩ : Ty)]), (⟨3, []⟩ : Ty), s3) _ _ ⟨rfl, rfl, sl7, rfl, trivial⟩ ⟨rdk, on3, q7, m7, own8, by dsimp only; rw [hl7]; omega, fun _ => by dsimp only; rw [gT_snoc, hmem, if_neg (by rintro ⟨_, e⟩; exact absurd e (by decide))]⟩
  replace h5 : ¬ n = 5 := h5
  refine if_p (fun h7 => ?_) (fun h7 => ?_)
  · replace h7 : n = 7 := h7
    refine call_ (uJ_ok h A c bs p s3 2 Pool.w2 w3 q3) ?_
    rintro e w4 ⟨n4, s4, rfl, rd4, hb4, o4, q4, m4⟩
    refine ⟨_, rfl, ?_⟩
    refine call_ (clsJ_ok h A c bs p s4 s3 n4 w4 q4 hO rd4 o4) ?_
    rintro e w5 ⟨z5, s5, rfl, rd5, o5, q5, m5⟩
    refine ⟨_, rfl, ?_⟩
    have rdk := rd_named (l := p.l) rd3 (by rw [h7]; rfl) rd5
    have m35 := both m4 m5
    have own5 := own_mod m35 own3 (fun q hq e => by have := (own3.lt q hq).1; omega)
    have m05 := both m3 m35
    have n6 := New.alloc w5 (.cells [zi (⟨4, z5⟩ : Ty).kind, strV (⟨4, z5⟩ : Ty).name].toArray 101)
    have hx6 := m05.size
    refine append2_ ok rfl rfl rfl rfl (own_new n6 own5) rfl rfl (row_alloc w5 [zi (⟨4, z5⟩ : Ty).kind, strV (⟨4, z5⟩ : Ty).name] _ _) rfl (tyOk.one (w := w5) (S := fun _ => False) (x := (⟨4, z5⟩ : Ty)) rfl) (by decide) rfl (by show (mem.length + 1) * 24 ≤ _; omega) (by omega) (Nat.le_trans hx6 n6.size) ?_
    intro A7 c7 w7 own7 mod7 st7
    obtain ⟨q7, m7⟩ := low q5 m05 own5 n6 mod7
    have hl7 : (mem ++ [(⟨4, z5⟩ : Ty)]).length = mem.length + 1 := by simp
    have own8 : w7.ownsRow w0.heap.size 101 2 (.slice A7 (mem ++ [(⟨4, z5⟩ : Ty)]).length c7) (mem ++ [(⟨4, z5⟩ : Ty)]).length (cellsOf ((mem ++ [(⟨4, z5⟩ : Ty)]).map fun y => ([zi y.kind, strV y.name], y))) := by
      rw [hl7, List.map_append, List.map_cons, List.map_nil, cellsOf_snoc]
      exact own7
    have sl7 : Value.slice A7 (mem.length + 1) c7 = .slice A7 (mem ++ [(⟨4, z5⟩ : Ty)]).length c7 := by rw [hl7]
    exact hK3 (((A7, c7), mem ++ [(⟨4, z5⟩ : Ty)]), (⟨4, z5⟩ : Ty), s5) _ _ ⟨rfl, rfl, sl7, rfl, trivial⟩ ⟨rdk, on3.trans o5, q7, m7, own8, by dsimp only; rw [hl7]; omega, fun _ => by dsimp only; rw [gT_snoc, hmem, if_neg (fun e => absurd (show (4 : Int) = 2 from e.2) (by decide))]⟩
  replace h7 : ¬ n = 7 := h7
  have rdk := rd_nokind (l := p.l) rd3 (by unfold kindIx; rw [if_neg h0, if_neg h1, if_neg h4, if_neg h5, if_neg h7])
  have hb3 := q3.re.blk
  refine And.intro ⟨_, cellB hb3 rfl⟩ (And.intro (fzB hb3 _) (force_ ?_))
  refine stK hb3 (show (3 : Nat) < 4 by decide) ?_
  intro w4 hb4 m4 s4
  exact hK3 (((Al, cl), mem), (⟨-1, []⟩ : Ty), (s3.1, true)) _ _ ⟨rfl, rfl, rfl, rfl, trivial⟩ ⟨rdk, ⟨on3.1, .inr rfl, fun _ => rfl⟩, q3.set m4 hb4, both m3 m4, own_mod m4 own3 (fun q hq e => by have := (own3.lt q hq).1; omega), by dsimp only; omega, fun e => by cases e⟩

end Go.Proofs.YtdcaafldnbcdkaaGreatDoor.Class

/-! ### KPar5 -/
namespace Go.Proofs.YtdcaafldnbcdkaaGreatDoor.Class
open Go Go.Proofs.YtdcaafldnbcdkaaGreatDoor Go.Proofs.YtdcaafldnbcdkaaGreatDoor.Eng Go.Proofs Go.Proofs.YtdcaafldnbcdkaaGreatDoor.Word Go.Proofs.YtdcaafldnbcdkaaGreatDoor.Fmt
open Go.Proofs.YtdcaafldnbcdkaaGreatDoor.Pool (Ent at_ poolF strV entC entV EntOk Pl OkPool both own_low tagAt)
set_option maxRecDepth 10000

/-- A list that grows in memory. -/
structure Gl {α : Type} (R : RepT α) (sz : Nat) (ty : TypeId) (w0 wl : World) (v : Value) (ts : List (List Value × α)) : Prop where
  own : wl.ownsRow w0.heap.size ty sz v ts.length (cellsOf ts)
  mem : ∀ y ∈ ts, R wl (fun b => b < w0.heap.size ∨ some b = v.ownBlock) y.1 y.2
section
variable {α : Type} {R : RepT α} {sz : Nat} {ty : TypeId} {w0 wl w5 w7 : World} {v v' : Value} {ts : List (List Value × α)} {cs : List Value} {x : α} {S : Nat → Prop}
theorem Gl.step (hR : RepOk R sz) (g : Gl R sz ty w0 wl v ts) (hx : R w5 (fun b => b < wl.heap.size) cs x) (m5 : Mod S wl w5) (hS : ∀ b, S b → b < w0.heap.size) (k57 : Mod (fun b => some b = v.ownBlock) w5 w7) (hz : w0.heap.size ≤ wl.heap.size) (own7 : w7.ownsRow w0.heap.size ty sz v' (ts.length + 1) (cellsOf ts ++ cs)) (st : ∀ b, some b = v'.ownBlock → some b = v.ownBlock ∨ w5.heap.size ≤ b) : Gl R sz ty w0 w7 v' (ts ++ [(cs, x)]) := by
  have hl : (ts ++ [(cs, x)]).length = ts.length + 1 := by simp
  refine ⟨by rw [hl, cellsOf_snoc]; exact own7, mem_stepS hR g.mem hx m5 hS k57 hz (fun b e => g.own.lt b e.symm) st⟩
theorem Gl.mod (hR : RepOk R sz) (g : Gl R sz ty w0 wl v ts) (m : Mod S wl w5) (hS : ∀ b, S b → b < w0.heap.size) : Gl R sz ty w0 w5 v ts :=
  ⟨own_mod m g.own (fun b hb e => by have h1 := (g.own.lt b hb).1; have h2 := hS b e; omega), fun y hy => hR.mod (g.mem y hy) (m.mono fun b _ e => .inl (hS b e))⟩
theorem Gl.nil : Gl R sz ty w0 wl (.slice none 0 0) ([] : List (List Value × α)) := ⟨⟨by simp [cellsOf], .inl ⟨rfl, rfl⟩⟩, fun _ h => (by cases h)⟩
theorem Gl.rep (hR : RepOk R sz) (g : Gl R sz ty w0 wl v ts) (hn : ts.length ≤ 140737488355328) : LRep R wl (fun b => b < w0.heap.size) v (ts.map (·.2)) := by
  obtain ⟨A', c', e', h5, h6, row, ho⟩ := own_slice g.own
  exact ⟨A', c', ts, by rw [List.length_map]; exact e', rfl, by rw [List.length_map]; exact h5, h6, by rw [List.length_map]; exact hn, row, fun a ha _ => ⟨(ho a ha).2.1, by have := (ho a ha).1; omega⟩, fun t ht => hR.weak (g.mem t ht) fun b _ hb => .inl hb⟩
end
theorem Rd.opt1u {l : List Ent} {n k : Int} {bs : List UInt8} {s s1 s2 s3 s4 : RSt} {z : List UInt8} {xs : List Mp} (h : Rd Class.n2 bs s n s1) (h0 : n ≠ 0) (h1 : Rd (utfT l) bs s1 z s2) (h2 : Rd Class.n4 bs s2 k s3) (h3 : Rd (mapsT l) bs s3 xs s4) (hb : bs.length ≤ 1000000) : Rd (optT l) bs s xs s4 := by
  have r := h1.1
  have r2 := h2.1
  have r3 := h3.1
  have r0 := h.1
  refine ⟨by omega, h3.2.1, fun hs y q ho e => ?_⟩
  by_cases hy : y = []
  · have e : bs.drop s.1 = enc 2 0 ++ q := by
      rw [e]
      show (if y = [] then enc 2 0 else _) ++ q = _
      rw [if_pos hy]
    obtain ⟨h1, _⟩ := h.2.2 hs 0 q n2_0 e
    exact absurd h1 h0
  · have e : bs.drop s.1 = enc 2 1 ++ ((utfT l).enc tableS ++ ((partT (mapsT l)).enc y ++ q)) := by
      rw [e]
      show (if y = [] then enc 2 0 else _) ++ q = _
      rw [if_neg hy, List.append_assoc, List.append_assoc]
    obtain ⟨_, a2, a3⟩ := h.2.2 hs 1 _ n2_1 e
    obtain ⟨o1, o2⟩ := ho.resolve_left hy
    obtain ⟨_, b2, b3⟩ := h1.2.2 a2 _ _ o1 a3
    exact (h2.part h3 hb).2.2 b2 y q o2 b3
theorem far_wrap {last n : Int} (hn : 0 ≤ n ∧ n < 65536) : IntKind.i64.wrap (IntKind.i64.wrap (last + 1) + n) = IntKind.i64.wrap (last + IntKind.i64.wrap (1 + n)) := by
  rw [wrap_i64 (n := 1 + n) (by omega) (by omega), IntKind.wrap_i64, IntKind.wrap_i64, IntKind.wrap_i64]
  omega
theorem getB_len (bs : List UInt8) (i : Nat) (n : Int) : (getB bs i n).1.length + i ≤ (getB bs i n).2.2 := by
  unfold getB
  split
  · simp
  split
  · simp
  · simp only [List.length_take, List.length_drop]
    omega
abbrev codC (a b : Int) (v1 v2 v3 : Value) : Array Value := #[zi a, zi b, v1, v2, v3]
abbrev codZ : Array Value := #[zi 0, zi 0, .slice none 0 0, .slice none 0 0, .slice none 0 0]
/-- A code that is being read: the reader, the boxes of the result and of the code. -/
structure Cs (w0 : World) (h : Nat) (A : Option Addr) (c : Nat) (bs : List UInt8) (p : Po) (V M : Nat) (vals : Array Value) (wl : World) (s' : RSt) : Prop where
  jr : Jr wl h A c bs p s'
  md : Mod (fun q => q = h ∨ q = M) w0 wl
  vb : wl.heap[V]? = some (.cells codZ 56 (0, 0))
  mb : wl.heap[M]? = some (.cells vals 56 (0, 0))
  hv : V ≠ h ∧ M ≠ h ∧ V ≠ M ∧ h < w0.heap.size ∧ M < w0.heap.size
section
variable {w0 wl w' : World} {h : Nat} {A : Option Addr} {c : Nat} {bs : List UInt8} {p : Po} {V M : Nat} {vals vals' : Array Value} {s s' s'' : RSt}
theorem Cs.act (k : Cs w0 h A c bs p V M vals wl s') (m : Mod (fun q => q = h) wl w') (q : Jr w' h A c bs p s'') : Cs w0 h A c bs p V M vals w' s'' :=
  ⟨q, both k.md (m.mono fun _ _ e => .inl e), m.blk k.vb k.hv.1, m.blk k.mb k.hv.2.1, k.hv⟩
/-- New blocks, and old ones of its own, change. -/
theorem Cs.loc {S : Nat → Prop} (q0 : Jr w0 h A c bs p s) (k : Cs w0 h A c bs p V M vals wl s') (m : Mod S wl w') (hS : ∀ b, S b → w0.heap.size ≤ b) (hV : V < w0.heap.size) : Cs w0 h A c bs p V M vals w' s' :=
  ⟨q0.mod k.jr m hS, Mod.trans k.md m fun b hb e => by have := hS b e; omega, m.blk k.vb (fun e => by have := hS _ e; omega), m.blk k.mb (fun e => by have := hS _ e; have := k.hv.2.2.2.2; omega), k.hv⟩
/-- The code's box is written. -/
theorem Cs.put (k : Cs w0 h A c bs p V M vals wl s') (hq : Jr w' h A c bs p s') (m : Mod (fun q => q = M) wl w') (hb : w'.heap[M]? = some (.cells vals' 56 (0, 0))) : Cs w0 h A c bs p V M vals' w' s' :=
  ⟨hq, both k.md (m.mono fun _ _ e => .inr e), m.blk k.vb k.hv.2.2.1, hb, k.hv⟩
end
theorem jr_at {w w' : World} {h : Nat} {A : Option Addr} {c : Nat} {bs : List UInt8} {p : Po} {s s' : RSt} {M : Nat} (q0 : Jr w h A c bs p s) (q : Jr w' h A c bs p s') {w'' : World} (m : Mod (fun b => b = M) w' w'') (hM : w.heap.size ≤ M) : Jr w'' h A c bs p s' := q0.mod q m fun b e => by omega
theorem one_rmp (z : Int) (A1 A2 : Option Addr) (n1 c1 n2 c2 : Nat) : ∀ u ∈ [zi z, Value.slice A1 n1 c1, Value.slice A2 n2 c2], u.oneCell' = true := fun u hu => by
  simp only [List.mem_cons, List.not_mem_nil, or_false] at hu
  rcases hu with rfl | rfl | rfl <;> rfl
theorem codeJ_ok (h : Nat) (A : Option Addr) (c : Nat) (bs : List UInt8) (p : Po) (s : RSt) (w : World) (q : Jr w h A c bs p s) (hO : OkPool p.l) (hm : bs.length ≤ 1000000) :
    Calls Tryz.prog 27 #[.pointer (some ⟨h, 0, none⟩)] w fun e w' => ∃ cs x s', e = .returned (.agg (List.toArray cs)) ∧ codR w' (fun q => q < w.heap.size) cs x ∧ iCod x ∧ Rd (codT p.l) bs s x s' ∧ cCod x ≤ 25 * (s'.1 - s.1) + 47 ∧ On s s' ∧ Jr w' h A c bs p s' ∧ Mod (fun q => q = h) w w' := by
  have hlt := q.lt
  refine enter ok Tryz.func27 rfl rfl rfl ?_
  obtain ⟨V, hV⟩ : ∃ V, V = w.heap.size := ⟨_, rfl⟩
  refine seq_cut (σ := Unit) (fun _ => [(0, .pointer (some ⟨h, 0, none⟩)), (2, .pointer (some ⟨V, 0, none⟩))]) (fun _ w' => New w w' ∧ w'.heap[V]? = some (.cells codZ 56 (0, 0))) ?_ ?_
  rotate_left
  · intro K hK
    rw [hV] at hK
    exact hK () _ _ ⟨rfl, rfl, trivial⟩ ⟨New.alloc w _, heap_alloc_new w (.cells codZ 56)⟩
  rintro _ wv frv ⟨nv, hVv⟩
  have qv := q.new nv
  have hVl := (Array.getElem?_eq_some_iff.1 hVv).1
  refine seq_cut (σ := Nat × Int × Int) (fun t => [(0, .pointer (some ⟨h, 0, none⟩)), (2, .pointer (some ⟨V, 0, none⟩)), (3, .pointer (some ⟨t.1, 0, none⟩))]) (fun t w' => ∃ s1 s2, Rd Class.n2 bs s t.2.1 s1 ∧ Rd Class.n2 bs s1 t.2.2 s2 ∧ (0 ≤ t.2.1 ∧ t.2.1 < 65536) ∧ (0 ≤ t.2.2 ∧ t.2.2 < 65536) ∧ On s s1 ∧ On s1 s2 ∧ Jr w' h A c bs p s2 ∧ Mod (fun q => q = h) wv w' ∧ w'.heap[V]? = some (.cells codZ 56 (0, 0)) ∧ w'.heap[t.1]? = some (.cells (codC t.2.1 t.2.2 (.slice none 0 0) (.slice none 0 0) (.slice none 0 0)) 56 (0, 0)) ∧ wv.heap.size ≤ t.1 ∧ w'.heap.size = t.1 + 1) ?_ ?_
  rotate_left
  · intro K hK
    refine call_ (uJ_ok h A c bs p s 2 Pool.w2 wv qv) ?_
    rintro e wa ⟨n1, s1, rfl, r1, hb1, o1, q1, m1⟩
    refine ⟨_, rfl, ?_⟩
    refine call_ (uJ_ok h A c bs p s1 2 Pool.w2 wa q1) ?_
    rintro e wb ⟨n2, s2, rfl, r2, hb2, o2, q2, m2⟩
    refine ⟨_, rfl, ?_⟩
    refine And.intro rfl ?_
    refine storeNew (vs := (codC n1 n2 (.slice none 0 0) (.slice none 0 0) (.slice none 0 0)).toList) (arr := codZ) rfl (one5 _ _) ?_
    intro wc hbc nc sc
    have mm := both m1 m2
    exact hK (wb.heap.size, n1, n2) _ _ ⟨rfl, rfl, rfl, trivial⟩ ⟨s1, s2, r1, r2, hb1, hb2, o1, o2, q2.new nc, mm.trans nc (fun _ _ e => False.elim e), nc.blk (mm.blk hVv (by omega)), hbc, mm.size, sc⟩
  rintro ⟨M, n1, n2⟩ w0 fr0 ⟨s1, s2, r1, r2, hb1, hb2, o1, o2, q0, m0, hV0, hM0, hMl, hsz⟩
  dsimp only at r1 r2 hb1 hb2 hM0 hMl hsz
  have hnv := nv.size
  have hlv : V < w0.heap.size := by omega
  have k0 : Cs w0 h A c bs p V M (codC n1 n2 (.slice none 0 0) (.slice none 0 0) (.slice none 0 0)) w0 s2 := ⟨q0, Mod.refl _ _, hV0, hM0, by omega, by omega, by omega, by omega, by omega⟩
  have low : ∀ b, (b = h ∨ b = M) → b < w0.heap.size := fun b e => by rcases e with e | e <;> omega
  -- its bytes
  refine seq_cut (σ := Int) (fun n => [(0, .pointer (some ⟨h, 0, none⟩)), (2, .pointer (some ⟨V, 0, none⟩)), (3, .pointer (some ⟨M, 0, none⟩)), (4, zi n)]) (fun n w' => ∃ s3, Rd Class.n4 bs s2 n s3 ∧ On s2 s3 ∧ Cs w0 h A c bs p V M (codC n1 n2 (.slice none 0 0) (.slice none 0 0) (.slice none 0 0)) w' s3) ?_ ?_
  rotate_left
  · intro K hK
    refine call_ (uJ_ok h A c bs p s2 4 Pool.w4 w0 q0) ?_
    rintro e wa ⟨n3, s3, rfl, r3, hb3, o3, q3, m3⟩
    refine ⟨_, rfl, ?_⟩
    exact hK n3 _ _ ⟨rfl, rfl, rfl, rfl, trivial⟩ ⟨s3, r3, o3, k0.act m3 q3⟩
  rintro n3 w3 fr3 ⟨s3, r3, o3, k3⟩
  refine seq_cut (σ := (Option Addr × Nat) × List UInt8) (fun t => [(0, .pointer (some ⟨h, 0, none⟩)), (2, .pointer (some ⟨V, 0, none⟩)), (3, .pointer (some ⟨M, 0, none⟩))]) (fun t w' => ∃ s4, Rd blobT bs s2 t.2 s4 ∧ On s2 s4 ∧ t.2.length + s2.1 ≤ s4.1 ∧ LRep u8R w' (fun q => q < w0.heap.size) (.slice t.1.1 t.2.length t.1.2) t.2 ∧ Cs w0 h A c bs p V M (codC n1 n2 (.slice t.1.1 t.2.length t.1.2) (.slice none 0 0) (.slice none 0 0)) w' s4) ?_ ?_
  rotate_left
  · intro K hK
    refine Exists.intro s3.2 (And.intro (cellB k3.jr.re.blk rfl) ?_)
    refine if_ (fun hz => ?_) (fun hz => ?_)
    · replace hz : s3.2 = false := by simpa using hz
      refine seq_cut (σ := (Option Addr × Nat) × List UInt8 × Int) (fun t => [(0, .pointer (some ⟨h, 0, none⟩)), (2, .pointer (some ⟨V, 0, none⟩)), (3, .pointer (some ⟨M, 0, none⟩)), (5, .slice t.1.1 t.2.1.length t.1.2), (6, zi t.2.2)]) (fun t w' => t.2 = ((getB bs s3.1 n3).1, (getB bs s3.1 n3).2.1) ∧ w'.ownsRow w3.heap.size 5 1 (.slice t.1.1 t.2.1.length t.1.2) t.2.1.length (bvs t.2.1) ∧ Cs w0 h A c bs p V M (codC n1 n2 (.slice none 0 0) (.slice none 0 0) (.slice none 0 0)) w' ((getB bs s3.1 n3).2.2, false)) ?_ ?_
      rotate_left
      · intro K2 hK2
        have hre := k3.jr.re
        rw [hz] at hre
        refine call_ (ReBytes_ok h p.v (.bool false) A c bs s3.1 n3 w3 hre (by omega)) ?_
        rintro e wa ⟨va, rfl, owna, rea, ma⟩
        obtain ⟨Aa, ca, rfl, _⟩ := own_slice owna
        refine ⟨_, rfl, ?_⟩
        exact hK2 ((Aa, ca), (getB bs s3.1 n3).1, (getB bs s3.1 n3).2.1) _ _ ⟨rfl, rfl, rfl, rfl, rfl, trivial⟩ ⟨rfl, owna, k3.act ma (k3.jr.to (s' := ((getB bs s3.1 n3).2.2, false)) rea ma)⟩
      rintro ⟨⟨Aa, ca⟩, by_, ey⟩ wa fra ⟨ht, owna, ka⟩
      obtain ⟨hby, hey⟩ := Prod.mk.inj ht
      dsimp only at owna
      have hMa := ka.mb
      have hwa := k3.md.size
      have hbl := getB_len bs s3.1 n3
      have hrd := Rd.blob r3 hz
      have hr31 := r3.1
      have hrl := hrd.2.1
      rw [← hby] at hbl hrd
      rw [← hey] at hrd
      dsimp only at hrl
      refine seq_cut (σ := Unit) (fun _ => [(0, .pointer (some ⟨h, 0, none⟩)), (2, .pointer (some ⟨V, 0, none⟩)), (3, .pointer (some ⟨M, 0, none⟩)), (6, zi ey)]) (fun _ w' => LRep u8R w' (fun q => q < w0.heap.size) (.slice Aa by_.length ca) by_ ∧ Cs w0 h A c bs p V M (codC n1 n2 (.slice Aa by_.length ca) (.slice none 0 0) (.slice none 0 0)) w' ((getB bs s3.1 n3).2.2, false)) ?_ ?_
      rotate_left
      · intro K2 hK2
        refine And.intro ⟨_, cellB hMa rfl⟩ (And.intro (fzB hMa _) (force_ ?_))
        refine stK hMa (show (2 : Nat) < 5 by decide) ?_
        intro wb hbb mb sb
        have ownb := own_mod mb owna (fun b hb e => by have := (owna.lt b hb).1; omega)
        exact hK2 () _ _ ⟨rfl, rfl, rfl, rfl, trivial⟩ ⟨bytes_rep ownb (by omega) (fun b hb e => by omega), ka.put (q.mod ka.jr mb fun b e => by omega) mb hbb⟩
      rintro _ wb frb ⟨lb, kb⟩
      have hbb := kb.jr.re.blk
      refine And.intro ⟨_, cellB hbb rfl⟩ (And.intro (fzB hbb _) (force_ ?_))
      refine stK hbb (show (3 : Nat) < 4 by decide) ?_
      intro wc hbc mc sc
      have qc := kb.jr.set mc hbc
      refine hK ((Aa, ca), by_) _ _ ⟨rfl, rfl, rfl, trivial⟩ ⟨_, hrd, ⟨hrd.1, .inl ?_, fun e => ?_⟩, ?_, LRep.mod u8Ok (by decide) lb (mc.mono fun b _ e => by omega), kb.act mc qc⟩
      · have := o3.2.1.resolve_right (by rw [hz]; decide)
        dsimp only
        omega
      · have := o3.2.2 e
        rw [hz] at this
        cases this
      · dsimp only
        omega
    · replace hz : s3.2 = true := by simpa using hz
      exact hK ((none, 0), []) _ _ ⟨rfl, rfl, rfl, trivial⟩ ⟨s3, Rd.blobN r3 hz [], o3, by have := o3.1; simpa using this, LRep.nil _ _ _ trivial, k3⟩
  rintro ⟨⟨Ab, cb⟩, by_⟩ w4 fr4 ⟨s4, r4, o4, hbl, lb, k4⟩
  dsimp only at r4 hbl lb k4
  have hs4 := k4.jr.re.at_
  -- its handlers
  refine seq_cut (σ := (Option Addr × Nat) × List (List Value × Hnd)) (fun t => [(0, .pointer (some ⟨h, 0, none⟩)), (2, .pointer (some ⟨V, 0, none⟩)), (3, .pointer (some ⟨M, 0, none⟩))]) (fun t w' => ∃ s5, Rd (hndsT p.l) bs s4 (t.2.map (·.2)) s5 ∧ On s4 s5 ∧ csum cHnd (t.2.map (·.2)) ≤ 8 * (s5.1 - s4.1) + 8 ∧ t.2.length ≤ 140737488355328 ∧ (∀ y ∈ t.2.map (·.2), iHnd y) ∧ Gl hndR 4 92 w4 w' (.slice t.1.1 t.2.length t.1.2) t.2 ∧ LRep u8R w' (fun q => q < w0.heap.size ∨ w4.heap.size ≤ q) (.slice Ab by_.length cb) by_ ∧ Cs w0 h A c bs p V M (codC n1 n2 (.slice Ab by_.length cb) (.slice t.1.1 t.2.length t.1.2) (.slice none 0 0)) w' s5) ?_ ?_
  rotate_left
  · intro K hK
    refine seq_cut (σ := Int) (fun n => [(0, .pointer (some ⟨h, 0, none⟩)), (2, .pointer (some ⟨V, 0, none⟩)), (3, .pointer (some ⟨M, 0, none⟩)), (7, zi n)]) (fun n w' => ∃ s5, Rd Class.n2 bs s4 n s5 ∧ (0 ≤ n ∧ n < 65536) ∧ On s4 s5 ∧ Mod (fun q => q = h) w4 w' ∧ Cs w0 h A c bs p V M (codC n1 n2 (.slice Ab by_.length cb) (.slice none 0 0) (.slice none 0 0)) w' s5) ?_ ?_
    rotate_left
    · intro K2 hK2
      refine call_ (uJ_ok h A c bs p s4 2 Pool.w2 w4 k4.jr) ?_
      rintro e wa ⟨n, s5, rfl, r5, hb5, o5, q5, m5⟩
      refine ⟨_, rfl, ?_⟩
      exact hK2 n _ _ ⟨rfl, rfl, rfl, rfl, trivial⟩ ⟨s5, r5, hb5, o5, m5, k4.act m5 q5⟩
    rintro n w5 fr5 ⟨s5, r5, hn5, o5, m45, k5⟩
    have lb5 := LRep.mod u8Ok (by decide) (LRep.weak (S' := fun q => q < w0.heap.size ∨ w4.heap.size ≤ q) u8Ok lb fun b hb e => e.resolve_right (by omega)) (m45.mono fun b _ e => .inl (by omega))
    have h45 := m45.size
    have h04 := k4.md.size
    refine den_loop (σ := ((Option Addr × Nat) × List (List Value × Hnd)) × Int × RSt) (fun t => [(0, .pointer (some ⟨h, 0, none⟩)), (2, .pointer (some ⟨V, 0, none⟩)), (3, .pointer (some ⟨M, 0, none⟩)), (7, zi t.2.1)])
      (fun m t wl => w4.heap.size ≤ wl.heap.size ∧ m = t.2.1.toNat ∧ LRd (hndT p.l) 256 bs s4 (t.1.2.map (·.2)) t.2.1.toNat t.2.2 ∧ t.2.1.toNat + t.1.2.length ≤ 65536 ∧ t.2.1 ≤ 65536 ∧ On s4 t.2.2 ∧ LCo cHnd 0 8 s4 (t.1.2.map (·.2)) t.2.2 ∧ (∀ y ∈ t.1.2.map (·.2), iHnd y) ∧ Gl hndR 4 92 w4 wl (.slice t.1.1.1 t.1.2.length t.1.1.2) t.1.2 ∧ LRep u8R wl (fun q => q < w0.heap.size ∨ w4.heap.size ≤ q) (.slice Ab by_.length cb) by_ ∧ Cs w0 h A c bs p V M (codC n1 n2 (.slice Ab by_.length cb) (.slice t.1.1.1 t.1.2.length t.1.1.2) (.slice none 0 0)) wl t.2.2) n.toNat (((none, 0), []), n, s5)
      ⟨rfl, rfl, rfl, rfl, trivial⟩ ⟨h45, rfl, LRd.start (by decide) r5, by simp; omega, by dsimp only; omega, o5, LCo.start, (fun _ h => (by cases h)), Gl.nil, lb5, k5⟩ ?_
    rintro m ⟨⟨⟨Al, cl⟩, ts⟩, z, sl⟩ wl frl ⟨h4l, rfl, hinv, hcnt, hz65, onl, hco, hih, gl, lbl, kl⟩
    dsimp only at hinv hcnt hz65 onl hco hih gl lbl kl
    have klz := kl.md.size
    have hsl := kl.jr.re.at_
    refine seq_cut (σ := Unit) (fun _ => [(0, .pointer (some ⟨h, 0, none⟩)), (2, .pointer (some ⟨V, 0, none⟩)), (3, .pointer (some ⟨M, 0, none⟩)), (7, zi z)]) (fun _ w' => w' = wl ∧ 0 < z ∧ sl.2 = false) ?_ ?_
    rotate_left
    · intro K2 hK2
      have fin : (sl.2 = false → z.toNat = 0) → id (∃ s5, Rd (hndsT p.l) bs s4 (ts.map (·.2)) s5 ∧ On s4 s5 ∧ csum cHnd (ts.map (·.2)) ≤ 8 * (s5.1 - s4.1) + 8 ∧ ts.length ≤ 140737488355328 ∧ (∀ y ∈ ts.map (·.2), iHnd y) ∧ Gl hndR 4 92 w4 wl (.slice Al ts.length cl) ts ∧ LRep u8R wl (fun q => q < w0.heap.size ∨ w4.heap.size ≤ q) (.slice Ab by_.length cb) by_ ∧ Cs w0 h A c bs p V M (codC n1 n2 (.slice Ab by_.length cb) (.slice Al ts.length cl) (.slice none 0 0)) wl s5) := fun hz =>
        ⟨sl, hinv.done hz, onl, by have := hco.le.1; omega, by omega, hih, gl, lbl, kl⟩
      refine if_p (fun hlt => ?_) (fun hge => ?_)
      · replace hlt : 0 < z := hlt
        refine Exists.intro sl.2 (And.intro (cellB kl.jr.re.blk rfl) ?_)
        refine if_ (fun hz => ?_) (fun hz => ?_)
        · replace hz : sl.2 = false := by simpa using hz
          exact hK2 () _ _ ⟨rfl, rfl, rfl, rfl, trivial⟩ ⟨rfl, hlt, hz⟩
        · replace hz : sl.2 = true := by simpa using hz
          exact hK ((Al, cl), ts) _ _ ⟨rfl, rfl, rfl, trivial⟩ (fin fun h => by rw [hz] at h; cases h)
      · replace hge : ¬ 0 < z := hge
        exact hK ((Al, cl), ts) _ _ ⟨rfl, rfl, rfl, trivial⟩ (fin fun _ => by omega)
    rintro _ wy fry ⟨hwy, hlt, hgood⟩
    obtain rfl := hwy.symm
    obtain ⟨k, hk⟩ : ∃ k, z.toNat = k + 1 := ⟨z.toNat - 1, by omega⟩
    rw [hk] at hinv
    have hk' : (z - 1).toNat = k := by omega
    refine seq_cut (σ := (Option Addr × Nat) × List Value × Hnd × RSt) (fun t => [(0, .pointer (some ⟨h, 0, none⟩)), (2, .pointer (some ⟨V, 0, none⟩)), (3, .pointer (some ⟨M, 0, none⟩)), (7, zi z)]) (fun t w' => w4.heap.size ≤ w'.heap.size ∧ Rd (hndT p.l) bs sl t.2.2.1 t.2.2.2 ∧ On sl t.2.2.2 ∧ iHnd t.2.2.1 ∧ Gl hndR 4 92 w4 w' (.slice t.1.1 (ts.length + 1) t.1.2) (ts ++ [(t.2.1, t.2.2.1)]) ∧ LRep u8R w' (fun q => q < w0.heap.size ∨ w4.heap.size ≤ q) (.slice Ab by_.length cb) by_ ∧ Cs w0 h A c bs p V M (codC n1 n2 (.slice Ab by_.length cb) (.slice t.1.1 (ts.length + 1) t.1.2) (.slice none 0 0)) w' t.2.2.2) ?_ ?_
    · rintro ⟨⟨A7, c7⟩, cs7, x7, s7⟩ w7 fr7 ⟨h47, rd7, on7, ix7, g7, lb7, k7⟩
      dsimp only at rd7 on7 ix7 g7 k7
      have hl7 : (ts ++ [(cs7, x7)]).length = ts.length + 1 := by simp
      rw [← hl7] at g7 k7
      refine ⟨(z - 1).toNat, (((A7, c7), ts ++ [(cs7, x7)]), z - 1, s7), (by dsimp only; omega), ⟨rfl, rfl, rfl, (show zi (IntKind.i64.wrap (z - 1)) = zi (z - 1) by rw [wrap_i64 (by omega) (by omega)]), trivial⟩, h47, rfl, ?_, ?_, by dsimp only; omega, onl.trans on7, ?_, ?_, g7, lb7, k7⟩
      · dsimp only
        rw [hk', List.map_append]
        exact hinv.step rd7
      · dsimp only
        rw [hl7]
        omega
      · dsimp only
        rw [List.map_append]
        exact hco.step hinv.1 hgood (by show 8 ≤ _; omega) on7
      · intro y hy
        dsimp only at hy
        rw [List.map_append] at hy
        rcases List.mem_append.1 hy with hy | hy
        · exact hih y hy
        · rw [List.mem_singleton.1 hy]; exact ix7
    intro K3 hK3
    refine block_ ?_
    refine seq_cut (σ := Nat × Int) (fun t => [(0, .pointer (some ⟨h, 0, none⟩)), (2, .pointer (some ⟨V, 0, none⟩)), (3, .pointer (some ⟨M, 0, none⟩)), (7, zi z), (8, .pointer (some ⟨t.1, 0, none⟩))]) (fun t w' => ∃ sa, Rd Class.n2 bs sl t.2 sa ∧ (0 ≤ t.2 ∧ t.2 < 65536) ∧ On sl sa ∧ Mod (fun q => q = h) wl w' ∧ wl.heap.size ≤ t.1 ∧ w'.heap[t.1]? = some (.cells #[zi t.2, zi 0, zi 0, zi 0] 92 (0, 0)) ∧ Cs w0 h A c bs p V M (codC n1 n2 (.slice Ab by_.length cb) (.slice Al ts.length cl) (.slice none 0 0)) w' sa) ?_ ?_
    rotate_left
    · intro K4 hK4
      refine call_ (uJ_ok h A c bs p sl 2 Pool.w2 wl kl.jr) ?_
      rintro e wa ⟨na, sa, rfl, ra, hba, oa, qa, ma⟩
      refine ⟨_, rfl, ?_⟩
      refine And.intro rfl ?_
      refine storeNew (vs := [zi na, zi 0, zi 0, zi 0]) (arr := #[zi 0, zi 0, zi 0, zi 0]) rfl (hndOk.one (w := wa) (S := fun _ => False) (x := ⟨na, 0, 0, 0⟩) rfl) ?_
      intro wb hbb nb sb
      have mab := ma.trans nb (fun _ _ e => False.elim e)
      exact hK4 (wa.heap.size, na) _ _ ⟨rfl, rfl, rfl, rfl, rfl, trivial⟩ ⟨sa, ra, hba, oa, mab, ma.size, hbb, kl.act mab (qa.new nb)⟩
    rintro ⟨E, na⟩ wa fra ⟨sa, ra, hba, oa, ma, hEl, hEa, ka⟩
    dsimp only at ra hba hEl hEa
    have hwz : w0.heap.size ≤ E := by omega
    refine seq_cut (σ := Int) (fun t => [(0, .pointer (some ⟨h, 0, none⟩)), (2, .pointer (some ⟨V, 0, none⟩)), (3, .pointer (some ⟨M, 0, none⟩)), (7, zi z), (8, .pointer (some ⟨E, 0, none⟩))]) (fun t w' => ∃ sb, Rd Class.n2 bs sa t sb ∧ (0 ≤ t ∧ t < 65536) ∧ On sa sb ∧ Mod (fun q => q = h) wl w' ∧ w'.heap[E]? = some (.cells #[zi na, zi t, zi 0, zi 0] 92 (0, 0)) ∧ Cs w0 h A c bs p V M (codC n1 n2 (.slice Ab by_.length cb) (.slice Al ts.length cl) (.slice none 0 0)) w' sb) ?_ ?_
    rotate_left
    · intro K4 hK4
      refine call_ (uJ_ok h A c bs p sa 2 Pool.w2 wa ka.jr) ?_
      rintro e wx ⟨nx, sx, rfl, rx, hbx, ox, qx, mx⟩
      refine ⟨_, rfl, ?_⟩
      have hEx := mx.blk hEa (show ¬ E = h by omega)
      refine And.intro ⟨_, cellB hEx rfl⟩ (And.intro (fzB hEx _) (force_ ?_))
      refine stK hEx (show (1 : Nat) < 4 by decide) ?_
      intro wy hby my sy
      have kx := ka.act mx qx
      exact hK4 nx _ _ ⟨rfl, rfl, rfl, rfl, rfl, trivial⟩ ⟨sx, rx, hbx, ox, Mod.trans (both ma mx) my fun b hb e => by omega, hby, Cs.loc q0 kx my (fun b e => by omega) hlv⟩
    rintro nb wb frb ⟨sb, rb, hbb, ob, mb, hEb, kb⟩
    refine seq_cut (σ := Int) (fun t => [(0, .pointer (some ⟨h, 0, none⟩)), (2, .pointer (some ⟨V, 0, none⟩)), (3, .pointer (some ⟨M, 0, none⟩)), (7, zi z), (8, .pointer (some ⟨E, 0, none⟩))]) (fun t w' => ∃ sc, Rd Class.n2 bs sb t sc ∧ (0 ≤ t ∧ t < 65536) ∧ On sb sc ∧ Mod (fun q => q = h) wl w' ∧ w'.heap[E]? = some (.cells #[zi na, zi nb, zi t, zi 0] 92 (0, 0)) ∧ Cs w0 h A c bs p V M (codC n1 n2 (.slice Ab by_.length cb) (.slice Al ts.length cl) (.slice none 0 0)) w' sc) ?_ ?_
    rotate_left
    · intro K4 hK4
      refine call_ (uJ_ok h A c bs p sb 2 Pool.w2 wb kb.jr) ?_
      rintro e wx ⟨nx, sx, rfl, rx, hbx, ox, qx, mx⟩
      refine ⟨_, rfl, ?_⟩
      have hEx := mx.blk hEb (show ¬ E = h by omega)
      refine And.intro ⟨_, cellB hEx rfl⟩ (And.intro (fzB hEx _) (force_ ?_))
      refine stK hEx (show (2 : Nat) < 4 by decide) ?_
      intro wy hby my sy
      have kx := kb.act mx qx
      exact hK4 nx _ _ ⟨rfl, rfl, rfl, rfl, rfl, trivial⟩ ⟨sx, rx, hbx, ox, Mod.trans (both mb mx) my fun b hb e => by omega, hby, Cs.loc q0 kx my (fun b e => by omega) hlv⟩
    rintro nc wc frc ⟨sc, rc, hbc, oc, mc, hEc, kc⟩
    refine seq_cut (σ := Int) (fun t => [(0, .pointer (some ⟨h, 0, none⟩)), (2, .pointer (some ⟨V, 0, none⟩)), (3, .pointer (some ⟨M, 0, none⟩)), (7, zi z), (8, .pointer (some ⟨E, 0, none⟩))]) (fun t w' => ∃ sd, Rd Class.n2 bs sc t sd ∧ (0 ≤ t ∧ t < 65536) ∧ On sc sd ∧ Mod (fun q => q = h) wl w' ∧ w'.heap[E]? = some (.cells #[zi na, zi nb, zi nc, zi t] 92 (0, 0)) ∧ Cs w0 h A c bs p V M (codC n1 n2 (.slice Ab by_.length cb) (.slice Al ts.length cl) (.slice none 0 0)) w' sd) ?_ ?_
    rotate_left
    · intro K4 hK4
      refine call_ (uJ_ok h A c bs p sc 2 Pool.w2 wc kc.jr) ?_
      rintro e wx ⟨nx, sx, rfl, rx, hbx, ox, qx, mx⟩
      refine ⟨_, rfl, ?_⟩
      have hEx := mx.blk hEc (show ¬ E = h by omega)
      refine And.intro ⟨_, cellB hEx rfl⟩ (And.intro (fzB hEx _) (force_ ?_))
      refine stK hEx (show (3 : Nat) < 4 by decide) ?_
      intro wy hby my sy
      have kx := kc.act mx qx
      exact hK4 nx _ _ ⟨rfl, rfl, rfl, rfl, rfl, trivial⟩ ⟨sx, rx, hbx, ox, Mod.trans (both mc mx) my fun b hb e => by omega, hby, Cs.loc q0 kx my (fun b e => by omega) hlv⟩
    rintro nd wd frd ⟨sd, rd, hbd, od, md, hEd, kd⟩
    have hMd := kd.mb
    refine Exists.intro Al (Exists.intro ts.length (Exists.intro cl (And.intro (cellB hMd rfl) ?_)))
    refine loadN_row (vs := [zi na, zi nb, zi nc, zi nd]) (rowB hEd) rfl ?_
    have n6 := New.alloc wd (.cells [zi na, zi nb, zi nc, zi nd].toArray 92)
    have mdz := md.size
    have gd : wd.ownsRow w4.heap.size 92 4 (.slice Al ts.length cl) ts.length (cellsOf ts) := own_mod md gl.own (fun b hb e => by have := (gl.own.lt b hb).1; omega)
    refine append2_ ok rfl rfl rfl rfl (own_new n6 gd) rfl rfl (row_alloc wd [zi na, zi nb, zi nc, zi nd] _ _) rfl (hndOk.one (w := wd) (S := fun _ => False) (x := ⟨na, nb, nc, nd⟩) rfl) (by decide) rfl (by show (ts.length + 1) * 32 ≤ _; omega) (by omega) (Nat.le_trans (Nat.le_trans h4l mdz) n6.size) ?_
    intro A7 c7 w7 own7 mod7 st7
    have k57 : Mod (fun b => some b = (Value.slice Al ts.length cl).ownBlock) wd w7 := Mod.trans n6.mod mod7 fun _ _ e => e
    have g7 := gl.step hndOk (w5 := wd) (x := (⟨na, nb, nc, nd⟩ : Hnd)) (cs := [zi na, zi nb, zi nc, zi nd]) rfl md (fun b e => by have := low b (.inl e); omega) k57 h4l own7 (fun b e => by
      rcases st7 b e.symm with e | e
      · exact .inl e.symm
      · exact .inr (Nat.le_trans n6.size e))
    have k7 := Cs.loc q0 kd k57 (fun b e => by have := (gl.own.lt b e.symm).1; omega) hlv
    have hM7 := k7.mb
    refine And.intro ⟨_, cellB hM7 rfl⟩ (And.intro (fzB hM7 _) (force_ ?_))
    refine stK hM7 (show (3 : Nat) < 5 by decide) ?_
    intro w8 hb8 m8 s8
    have m78 := k57.size
    have lb8 := LRep.mod u8Ok (by decide) (LRep.mod u8Ok (by decide) (LRep.mod u8Ok (by decide) lbl (md.mono fun b _ e => .inl (by omega))) (k57.mono fun b _ e => .inr (by have := (gl.own.lt b e.symm).1; omega))) (m8.mono fun b _ e => .inl (by omega))
    refine hK3 ((A7, c7), [zi na, zi nb, zi nc, zi nd], ⟨na, nb, nc, nd⟩, sd) _ _ ⟨rfl, rfl, rfl, rfl, trivial⟩ ⟨by omega, ?_, oa.trans (ob.trans (oc.trans od)), ⟨by unfold i64; dsimp only; omega, by unfold i64; dsimp only; omega, by unfold i64; dsimp only; omega, by unfold i64; dsimp only; omega⟩, g7.mod hndOk m8 (fun b e => by omega), lb8, k7.put (q.mod k7.jr m8 fun b e => by omega) m8 hb8⟩
    exact Rd.byP (f := fun h : Hnd => (h.from_, h.to, h.at_, h.cls)) (y := ⟨na, nb, nc, nd⟩) (ra.seq (rb.seq (rc.seq rd))) (fun z e => by cases z; cases e; rfl)
  rintro ⟨⟨Ah, ch⟩, th⟩ w5 fr5 ⟨s5, r5, o5, hch, hlh, hih, gh, lb5, k5⟩
  dsimp only at r5 hch hlh hih gh k5
  -- behind its handlers
  have lh5 := gh.rep hndOk hlh
  obtain ⟨hs, hhs⟩ : ∃ hs, hs = th.map (·.2) := ⟨_, rfl⟩
  have hlen : th.length = hs.length := by rw [hhs, List.length_map]
  rw [← hhs] at lh5 r5 hch hih
  rw [hlen] at lh5 k5
  have h04 := k4.md.size
  have h05 := k5.md.size
  have lb50 := LRep.weak (S' := fun q => q < w0.heap.size ∨ w5.heap.size ≤ q) u8Ok lb5 fun b hb e => .inl (e.resolve_right (by omega))
  have lh50 := LRep.weak (S' := fun q => q < w0.heap.size ∨ w5.heap.size ≤ q) hndOk lh5 fun b hb e => by have := e.resolve_right (by omega); omega
  have fin : ∀ (ms : List Mp) (Am : Option Addr) (cm : Nat) (s9 : RSt) (wz wf : World), LRep mpR wz (fun q => q < w0.heap.size) (.slice Am ms.length cm) ms → LRep u8R wz (fun q => q < w0.heap.size) (.slice Ab by_.length cb) by_ → LRep hndR wz (fun q => q < w0.heap.size) (.slice Ah hs.length ch) hs →
      Rd (optT p.l) bs s5 ms s9 → csum cMp ms ≤ 25 * (s9.1 - s5.1) + 19 → (∀ y ∈ ms, i64 y.at_) → On s5 s9 → Cs w0 h A c bs p V M (codC n1 n2 (.slice Ab by_.length cb) (.slice Ah hs.length ch) (.slice Am ms.length cm)) wz s9 → Mod (fun b => b = V) wz wf →
      ∃ cs x s', Ending.returned (.agg (codC n1 n2 (.slice Ab by_.length cb) (.slice Ah hs.length ch) (.slice Am ms.length cm))) = .returned (.agg (List.toArray cs)) ∧ codR wf (fun q => q < w.heap.size) cs x ∧ iCod x ∧ Rd (codT p.l) bs s x s' ∧ cCod x ≤ 25 * (s'.1 - s.1) + 47 ∧ On s s' ∧ Jr wf h A c bs p s' ∧ Mod (fun q => q = h) w wf := by
    intro ms Am cm s9 wz wf lm lbz lhz r9 hc9 hi9 o9 kz mf
    have lf : ∀ {α : Type} {R : RepT α} {n : Nat} {v : Value} {xs : List α}, RepOk R n → 0 < n → LRep R wz (fun b => b < w0.heap.size) v xs → LRep R wf (fun b => b < w.heap.size) v xs := fun k hn l => LRep.weak k (LRep.mod k hn l (mf.mono fun b _ e => by omega)) fun b _ e => by omega
    refine ⟨_, ⟨n1, n2, by_, hs, ms⟩, s9, rfl, ⟨_, _, _, rfl, lf u8Ok (by decide) lbz, lf hndOk (by decide) lhz, lf mpOk (by decide) lm⟩, ⟨by unfold i64; dsimp only; omega, by unfold i64; dsimp only; omega, hih, hi9⟩, ?_, ?_, ?_, q.mod kz.jr mf (fun b e => by omega), ?_⟩
    · exact Rd.byP (f := fun c : Cod => (c.stack, c.locals, c.bytes, c.hands, c.maps)) (y := ⟨n1, n2, by_, hs, ms⟩) (r1.seq (r2.seq (r4.seq (r5.seq r9)))) (fun z e => by cases z; cases e; rfl)
    · have a1 := o1.1
      have a2 := o2.1
      have a4 := o4.1
      have a5 := o5.1
      have a9 := o9.1
      show 4 + (4 + by_.length) + (2 + csum cHnd hs) + (10 + csum cMp ms) ≤ _
      omega
    · exact o1.trans (o2.trans (o4.trans (o5.trans o9)))
    · have az : Mod (fun q => q = h) w wz := Mod.trans (Mod.trans nv.mod m0 fun _ _ e => e) kz.md fun b hb e => by
        rcases e with e | e
        · exact e
        · omega
      exact Mod.trans az mf fun b hb e => by omega
  refine seq_cut (σ := Int) (fun n => [(0, .pointer (some ⟨h, 0, none⟩)), (2, .pointer (some ⟨V, 0, none⟩)), (3, .pointer (some ⟨M, 0, none⟩))]) (fun n w' => ∃ s6, n ≠ 0 ∧ Rd Class.n2 bs s5 n s6 ∧ On s5 s6 ∧ Mod (fun q => q = h) w5 w' ∧ Cs w0 h A c bs p V M (codC n1 n2 (.slice Ab by_.length cb) (.slice Ah hs.length ch) (.slice none 0 0)) w' s6) ?_ ?_
  rotate_left
  · intro K hK
    refine call_ (uJ_ok h A c bs p s5 2 Pool.w2 w5 k5.jr) ?_
    rintro e wa ⟨na, sa, rfl, ra, hba, oa, qa, ma⟩
    refine ⟨_, rfl, ?_⟩
    have ka := k5.act ma qa
    refine if_p (fun h0 => ?_) (fun h0 => ?_)
    · replace h0 : na = 0 := h0
      refine loadN_row (vs := (codC n1 n2 (.slice Ab by_.length cb) (.slice Ah hs.length ch) (.slice none 0 0)).toList) (rowB ka.mb) rfl ?_
      refine And.intro rfl ?_
      refine storeN_all (vs := (codC n1 n2 (.slice Ab by_.length cb) (.slice Ah hs.length ch) (.slice none 0 0)).toList) ka.vb rfl (ones5 _ _ _ _ _ _ _ _ _ _ _) ?_
      intro wb hb mb sb
      refine loadN_row (vs := (codC n1 n2 (.slice Ab by_.length cb) (.slice Ah hs.length ch) (.slice none 0 0)).toList) (rowB hb) rfl ?_
      exact fin [] none 0 sa wa wb (LRep.nil _ _ _ trivial) (LRep.weak u8Ok (LRep.mod u8Ok (by decide) lb50 (ma.mono fun b _ e => .inl (by omega))) fun _ _ e => .inl e) (LRep.weak hndOk (LRep.mod hndOk (by decide) lh50 (ma.mono fun b _ e => .inl (by omega))) fun _ _ e => .inl e) (Rd.opt0 ra h0) (Nat.zero_le _) (fun _ h => (by cases h)) oa ka mb
    · replace h0 : ¬ na = 0 := h0
      exact hK na _ _ ⟨rfl, rfl, rfl, trivial⟩ ⟨sa, h0, ra, oa, ma, ka⟩
  rintro nn w6 fr6 ⟨s6, hn6, r6, o6, m6, k6⟩
  refine seq_cut (σ := List UInt8) (fun n => [(0, .pointer (some ⟨h, 0, none⟩)), (2, .pointer (some ⟨V, 0, none⟩)), (3, .pointer (some ⟨M, 0, none⟩))]) (fun t w' => ∃ s7, Rd (utfT p.l) bs s6 t s7 ∧ On s6 s7 ∧ Mod (fun q => q = h) w5 w' ∧ Cs w0 h A c bs p V M (codC n1 n2 (.slice Ab by_.length cb) (.slice Ah hs.length ch) (.slice none 0 0)) w' s7) ?_ ?_
  rotate_left
  · intro K hK
    refine call_ (utfJ_ok h A c bs p s6 w6 k6.jr hO) ?_
    rintro e wa ⟨za, sa, rfl, ra, oa, qa, ma⟩
    refine ⟨_, rfl, ?_⟩
    exact hK za _ _ ⟨rfl, rfl, rfl, trivial⟩ ⟨sa, ra, oa, both m6 ma, k6.act ma qa⟩
  rintro z7 w7 fr7 ⟨s7, r7, o7, m7, k7⟩
  refine seq_cut (σ := Int) (fun n => [(0, .pointer (some ⟨h, 0, none⟩)), (2, .pointer (some ⟨V, 0, none⟩)), (3, .pointer (some ⟨M, 0, none⟩))]) (fun n w' => ∃ s8, Rd Class.n4 bs s7 n s8 ∧ On s7 s8 ∧ Mod (fun q => q = h) w5 w' ∧ Cs w0 h A c bs p V M (codC n1 n2 (.slice Ab by_.length cb) (.slice Ah hs.length ch) (.slice none 0 0)) w' s8) ?_ ?_
  rotate_left
  · intro K hK
    refine call_ (uJ_ok h A c bs p s7 4 Pool.w4 w7 k7.jr) ?_
    rintro e wa ⟨na, sa, rfl, ra, hba, oa, qa, ma⟩
    refine ⟨_, rfl, ?_⟩
    exact hK na _ _ ⟨rfl, rfl, rfl, trivial⟩ ⟨sa, ra, oa, both m7 ma, k7.act ma qa⟩
  rintro n8 w8 fr8 ⟨s8, r8, o8, m8, k8⟩
  refine seq_assign ?_
  -- its maps
  refine seq_cut (σ := (Option Addr × Nat) × List (List Value × Mp)) (fun t => [(0, .pointer (some ⟨h, 0, none⟩)), (2, .pointer (some ⟨V, 0, none⟩)), (3, .pointer (some ⟨M, 0, none⟩))]) (fun t w' => ∃ s9, Rd (mapsT p.l) bs s8 (t.2.map (·.2)) s9 ∧ On s8 s9 ∧ csum cMp (t.2.map (·.2)) ≤ 25 * (s9.1 - s8.1) + 19 ∧ t.2.length ≤ 140737488355328 ∧ (∀ y ∈ t.2.map (·.2), i64 y.at_) ∧ Gl mpR 3 97 w5 w' (.slice t.1.1 t.2.length t.1.2) t.2 ∧ LRep u8R w' (fun q => q < w0.heap.size ∨ w5.heap.size ≤ q) (.slice Ab by_.length cb) by_ ∧ LRep hndR w' (fun q => q < w0.heap.size ∨ w5.heap.size ≤ q) (.slice Ah hs.length ch) hs ∧ Cs w0 h A c bs p V M (codC n1 n2 (.slice Ab by_.length cb) (.slice Ah hs.length ch) (.slice t.1.1 t.2.length t.1.2)) w' s9) ?_ ?_
  rotate_left
  · intro K hK
    refine seq_cut (σ := Int) (fun n => [(0, .pointer (some ⟨h, 0, none⟩)), (2, .pointer (some ⟨V, 0, none⟩)), (3, .pointer (some ⟨M, 0, none⟩)), (9, zi (-1)), (10, zi n)]) (fun n w' => ∃ s9, Rd Class.n2 bs s8 n s9 ∧ (0 ≤ n ∧ n < 65536) ∧ On s8 s9 ∧ Mod (fun q => q = h) w5 w' ∧ Cs w0 h A c bs p V M (codC n1 n2 (.slice Ab by_.length cb) (.slice Ah hs.length ch) (.slice none 0 0)) w' s9) ?_ ?_
    rotate_left
    · intro K2 hK2
      refine call_ (uJ_ok h A c bs p s8 2 Pool.w2 w8 k8.jr) ?_
      rintro e wa ⟨n, s9, rfl, r9, hb9, o9, q9, m9⟩
      refine ⟨_, rfl, ?_⟩
      exact hK2 n _ _ ⟨rfl, rfl, rfl, rfl, rfl, trivial⟩ ⟨s9, r9, hb9, o9, both m8 m9, k8.act m9 q9⟩
    rintro n w9 fr9 ⟨s9, r9, hn9, o9, m9, k9⟩
    have lb9 := LRep.mod u8Ok (by decide) lb50 (m9.mono fun b _ e => .inl (by omega))
    have lh9 := LRep.mod hndOk (by decide) lh50 (m9.mono fun b _ e => .inl (by omega))
    have h59 := m9.size
    refine den_loop (σ := ((Option Addr × Nat) × List (List Value × Mp)) × Int × Int × RSt) (fun t => [(0, .pointer (some ⟨h, 0, none⟩)), (2, .pointer (some ⟨V, 0, none⟩)), (3, .pointer (some ⟨M, 0, none⟩)), (9, zi t.2.2.1), (10, zi t.2.1)])
      (fun m t wl => w5.heap.size ≤ wl.heap.size ∧ m = t.2.1.toNat ∧ MRd p.l bs s8 (t.1.2.map (·.2)) t.2.1.toNat t.2.2.1 t.2.2.2 ∧ t.2.1.toNat + t.1.2.length ≤ 65536 ∧ t.2.1 ≤ 65536 ∧ On s8 t.2.2.2 ∧ LCo cMp 6 19 s8 (t.1.2.map (·.2)) t.2.2.2 ∧ i64 t.2.2.1 ∧ (∀ y ∈ t.1.2.map (·.2), i64 y.at_) ∧ Gl mpR 3 97 w5 wl (.slice t.1.1.1 t.1.2.length t.1.1.2) t.1.2 ∧ LRep u8R wl (fun q => q < w0.heap.size ∨ w5.heap.size ≤ q) (.slice Ab by_.length cb) by_ ∧ LRep hndR wl (fun q => q < w0.heap.size ∨ w5.heap.size ≤ q) (.slice Ah hs.length ch) hs ∧ Cs w0 h A c bs p V M (codC n1 n2 (.slice Ab by_.length cb) (.slice Ah hs.length ch) (.slice t.1.1.1 t.1.2.length t.1.1.2)) wl t.2.2.2) n.toNat (((none, 0), []), n, -1, s9)
      ⟨rfl, rfl, rfl, rfl, rfl, trivial⟩ ⟨h59, rfl, MRd.start r9, by simp; omega, by dsimp only; omega, o9, LCo.start, (by unfold i64; dsimp only; omega), (fun _ h => (by cases h)), Gl.nil, lb9, lh9, k9⟩ ?_
    rintro m ⟨⟨⟨Al, cl⟩, ts⟩, z, last, sl⟩ wl frl ⟨h5l, rfl, hinv, hcnt, hz65, onl, hco, hla, him, gl, lbl, lhl, kl⟩
    dsimp only at hinv hcnt hz65 onl hco hla him gl lbl lhl kl
    have klz := kl.md.size
    have hsl := kl.jr.re.at_
    refine seq_cut (σ := Unit) (fun _ => [(0, .pointer (some ⟨h, 0, none⟩)), (2, .pointer (some ⟨V, 0, none⟩)), (3, .pointer (some ⟨M, 0, none⟩)), (9, zi last), (10, zi z)]) (fun _ w' => w' = wl ∧ 0 < z ∧ sl.2 = false) ?_ ?_
    rotate_left
    · intro K2 hK2
      have fin2 : (sl.2 = false → z.toNat = 0) → id (∃ s9, Rd (mapsT p.l) bs s8 (ts.map (·.2)) s9 ∧ On s8 s9 ∧ csum cMp (ts.map (·.2)) ≤ 25 * (s9.1 - s8.1) + 19 ∧ ts.length ≤ 140737488355328 ∧ (∀ y ∈ ts.map (·.2), i64 y.at_) ∧ Gl mpR 3 97 w5 wl (.slice Al ts.length cl) ts ∧ LRep u8R wl (fun q => q < w0.heap.size ∨ w5.heap.size ≤ q) (.slice Ab by_.length cb) by_ ∧ LRep hndR wl (fun q => q < w0.heap.size ∨ w5.heap.size ≤ q) (.slice Ah hs.length ch) hs ∧ Cs w0 h A c bs p V M (codC n1 n2 (.slice Ab by_.length cb) (.slice Ah hs.length ch) (.slice Al ts.length cl)) wl s9) := fun hz =>
        ⟨sl, hinv.done hz, onl, by have := hco.le.1; omega, by omega, him, gl, lbl, lhl, kl⟩
      refine if_p (fun hlt => ?_) (fun hge => ?_)
      · replace hlt : 0 < z := hlt
        refine Exists.intro sl.2 (And.intro (cellB kl.jr.re.blk rfl) ?_)
        refine if_ (fun hz => ?_) (fun hz => ?_)
        · replace hz : sl.2 = false := by simpa using hz
          exact hK2 () _ _ ⟨rfl, rfl, rfl, rfl, rfl, trivial⟩ ⟨rfl, hlt, hz⟩
        · replace hz : sl.2 = true := by simpa using hz
          exact hK ((Al, cl), ts) _ _ ⟨rfl, rfl, rfl, trivial⟩ (fin2 fun h => by rw [hz] at h; cases h)
      · replace hge : ¬ 0 < z := hge
        exact hK ((Al, cl), ts) _ _ ⟨rfl, rfl, rfl, trivial⟩ (fin2 fun _ => by omega)
    rintro _ wy fry ⟨hwy, hlt, hgood⟩
    obtain rfl := hwy.symm
    obtain ⟨k, hk⟩ : ∃ k, z.toNat = k + 1 := ⟨z.toNat - 1, by omega⟩
    rw [hk] at hinv
    have hk' : (z - 1).toNat = k := by omega
    refine seq_cut (σ := (Option Addr × Nat) × List Value × Mp × RSt) (fun t => [(0, .pointer (some ⟨h, 0, none⟩)), (2, .pointer (some ⟨V, 0, none⟩)), (3, .pointer (some ⟨M, 0, none⟩)), (9, zi t.2.2.1.at_), (10, zi z)]) (fun t w' => w5.heap.size ≤ w'.heap.size ∧ Rd (mapT p.l last) bs sl t.2.2.1 t.2.2.2 ∧ On sl t.2.2.2 ∧ cMp t.2.2.1 ≤ 6 * (t.2.2.2.1 - sl.1) + 19 ∧ i64 t.2.2.1.at_ ∧ Gl mpR 3 97 w5 w' (.slice t.1.1 (ts.length + 1) t.1.2) (ts ++ [(t.2.1, t.2.2.1)]) ∧ LRep u8R w' (fun q => q < w0.heap.size ∨ w5.heap.size ≤ q) (.slice Ab by_.length cb) by_ ∧ LRep hndR w' (fun q => q < w0.heap.size ∨ w5.heap.size ≤ q) (.slice Ah hs.length ch) hs ∧ Cs w0 h A c bs p V M (codC n1 n2 (.slice Ab by_.length cb) (.slice Ah hs.length ch) (.slice t.1.1 (ts.length + 1) t.1.2)) w' t.2.2.2) ?_ ?_
    · rintro ⟨⟨A7, c7⟩, cs7, x7, s7'⟩ w7' fr7' ⟨h57, rd7, on7, co7, ix7, g7, lb7, lh7, k7'⟩
      dsimp only at rd7 on7 co7 ix7 g7 k7'
      have hl7 : (ts ++ [(cs7, x7)]).length = ts.length + 1 := by simp
      rw [← hl7] at g7 k7'
      refine ⟨(z - 1).toNat, (((A7, c7), ts ++ [(cs7, x7)]), z - 1, x7.at_, s7'), (by dsimp only; omega), ⟨rfl, rfl, rfl, rfl, (show zi (IntKind.i64.wrap (z - 1)) = zi (z - 1) by rw [wrap_i64 (by omega) (by omega)]), trivial⟩, h57, rfl, ?_, ?_, by dsimp only; omega, onl.trans on7, ?_, ix7, ?_, g7, lb7, lh7, k7'⟩
      · dsimp only
        rw [hk', List.map_append]
        exact hinv.step rd7
      · dsimp only
        rw [hl7]
        omega
      · dsimp only
        rw [List.map_append]
        exact hco.step hinv.1 hgood co7 on7
      · intro y hy
        dsimp only at hy
        rw [List.map_append] at hy
        rcases List.mem_append.1 hy with hy | hy
        · exact him y hy
        · rw [List.mem_singleton.1 hy]; exact ix7
    intro K3 hK3
    refine block_ ?_
    refine seq_cut (σ := Int) (fun _ => [(0, .pointer (some ⟨h, 0, none⟩)), (2, .pointer (some ⟨V, 0, none⟩)), (3, .pointer (some ⟨M, 0, none⟩)), (9, zi last), (10, zi z)]) (fun t w' => ∃ sa, Rd Class.n1 bs sl t sa ∧ On sl sa ∧ Mod (fun q => q = h) wl w' ∧ Cs w0 h A c bs p V M (codC n1 n2 (.slice Ab by_.length cb) (.slice Ah hs.length ch) (.slice Al ts.length cl)) w' sa) ?_ ?_
    rotate_left
    · intro K4 hK4
      refine call_ (uJ_ok h A c bs p sl 1 Pool.w1 wl kl.jr) ?_
      rintro e wa ⟨na, sa, rfl, ra, hba, oa, qa, ma⟩
      refine ⟨_, rfl, ?_⟩
      exact hK4 na _ _ ⟨rfl, rfl, rfl, rfl, rfl, trivial⟩ ⟨sa, ra, oa, ma, kl.act ma qa⟩
    rintro na wa fra ⟨sa, ra, oa, ma, ka⟩
    refine seq_cut (σ := Nat × Int × Int) (fun t => [(0, .pointer (some ⟨h, 0, none⟩)), (2, .pointer (some ⟨V, 0, none⟩)), (3, .pointer (some ⟨M, 0, none⟩)), (9, zi last), (10, zi z), (11, .pointer (some ⟨t.1, 0, none⟩))]) (fun t w' => ∃ sb, Rd Class.n2 bs sa t.2.1 sb ∧ (0 ≤ t.2.1 ∧ t.2.1 < 65536) ∧ t.2.2 = IntKind.i64.wrap (last + IntKind.i64.wrap (1 + t.2.1)) ∧ On sa sb ∧ Mod (fun q => q = h) wl w' ∧ wl.heap.size ≤ t.1 ∧ w'.heap[t.1]? = some (.cells #[zi t.2.2, .slice none 0 0, .slice none 0 0] 97 (0, 0)) ∧ Cs w0 h A c bs p V M (codC n1 n2 (.slice Ab by_.length cb) (.slice Ah hs.length ch) (.slice Al ts.length cl)) w' sb) ?_ ?_
    rotate_left
    · intro K4 hK4
      refine call_ (uJ_ok h A c bs p sa 2 Pool.w2 wa ka.jr) ?_
      rintro e wb ⟨nb, sb, rfl, rb, hbb, ob, qb, mb⟩
      refine ⟨_, rfl, ?_⟩
      have ef := far_wrap (last := last) hbb
      refine And.intro rfl ?_
      refine storeNew (vs := [zi (IntKind.i64.wrap (IntKind.i64.wrap (last + 1) + nb)), .slice none 0 0, .slice none 0 0]) (arr := #[zi 0, .slice none 0 0, .slice none 0 0]) rfl (one_rmp _ _ _ _ _ _ _) ?_
      intro wc hbc nc sc
      rw [ef] at hbc
      have mbc := mb.trans nc (fun _ _ e => False.elim e)
      have hszb := (both ma mb).size
      exact hK4 (wb.heap.size, nb, _) _ _ ⟨rfl, rfl, rfl, rfl, rfl, rfl, trivial⟩ ⟨sb, rb, hbb, rfl, ob, both ma mbc, hszb, hbc, ka.act mbc (qb.new nc)⟩
    rintro ⟨E, nb, at2⟩ wb frb ⟨sb, rb, hbb, hat, ob, mb, hEl, hEb, kb⟩
    dsimp only at rb hbb hat hEl hEb
    have hi2 : i64 at2 := by rw [hat]; exact i64_wrap _
    have rf := rd_far rb hla hbb
    rw [← hat] at rf
    have hEb' := (Array.getElem?_eq_some_iff.1 hEb).1
    refine seq_cut (σ := Unit) (fun _ => [(0, .pointer (some ⟨h, 0, none⟩)), (2, .pointer (some ⟨V, 0, none⟩)), (3, .pointer (some ⟨M, 0, none⟩)), (9, zi at2), (10, zi z), (11, .pointer (some ⟨E, 0, none⟩))]) (fun _ w' => w' = wb) ?_ ?_
    rotate_left
    · intro K4 hK4
      refine Exists.intro at2 (And.intro (cellB hEb rfl) ?_)
      exact hK4 () _ _ ⟨rfl, rfl, rfl, rfl, rfl, rfl, trivial⟩ rfl
    rintro _ wx frx hwx
    obtain rfl := hwx.symm
    have hwz : w0.heap.size ≤ E := by omega
    refine seq_cut (σ := (Option Addr × Nat) × List Ty) (fun t => [(0, .pointer (some ⟨h, 0, none⟩)), (2, .pointer (some ⟨V, 0, none⟩)), (3, .pointer (some ⟨M, 0, none⟩)), (9, zi at2), (10, zi z), (11, .pointer (some ⟨E, 0, none⟩))]) (fun t w' => ∃ sc, Rd (lcsT p.l) bs sb t.2 sc ∧ t.2.length ≤ 2 * ((sc.1 - sb.1) + 1) ∧ On sb sc ∧ LRep tyR w' (fun q => q < wb.heap.size) (.slice t.1.1 t.2.length t.1.2) t.2 ∧ Mod (fun q => q = h) wl w' ∧ w'.heap[E]? = some (.cells #[zi at2, .slice t.1.1 t.2.length t.1.2, .slice none 0 0] 97 (0, 0)) ∧ wb.heap.size ≤ w'.heap.size ∧ Cs w0 h A c bs p V M (codC n1 n2 (.slice Ab by_.length cb) (.slice Ah hs.length ch) (.slice Al ts.length cl)) w' sc) ?_ ?_
    rotate_left
    · intro K4 hK4
      refine call_ (typesJ_ok h A c bs p sb true wb kb.jr hO hm) ?_
      rintro e wc ⟨v, ys, sc, rfl, lc, rc, cc, oc, qc, mc⟩
      obtain ⟨Ac, cc', rfl, _⟩ := lc.get tyOk (by decide)
      refine ⟨_, rfl, ?_⟩
      have hEc := mc.blk hEb (show ¬ E = h by omega)
      refine And.intro ⟨_, cellB hEc rfl⟩ (And.intro (fzB hEc _) (force_ ?_))
      refine stK hEc (show (1 : Nat) < 3 by decide) ?_
      intro wd hbd md sd
      have hsz3 := mc.size
      exact hK4 ((Ac, cc'), ys) _ _ ⟨rfl, rfl, rfl, rfl, rfl, rfl, trivial⟩ ⟨sc, rc, cc, oc, LRep.mod tyOk (by decide) lc (md.mono fun b _ e => by omega), Mod.trans (both mb mc) md fun b hb e => by omega, hbd, by omega, Cs.loc q0 (kb.act mc qc) md (fun b e => by omega) hlv⟩
    rintro ⟨⟨Ay, cy⟩, ys⟩ wc frc ⟨sc, rc, cc, oc, lc, mc, hEc, hszc, kc⟩
    dsimp only at rc cc lc hEc
    refine seq_cut (σ := (Option Addr × Nat) × List Ty) (fun t => [(0, .pointer (some ⟨h, 0, none⟩)), (2, .pointer (some ⟨V, 0, none⟩)), (3, .pointer (some ⟨M, 0, none⟩)), (9, zi at2), (10, zi z), (11, .pointer (some ⟨E, 0, none⟩))]) (fun t w' => ∃ sd, Rd (stkT p.l) bs sc t.2 sd ∧ t.2.length ≤ 2 * ((sd.1 - sc.1) + 1) ∧ On sc sd ∧ LRep tyR w' (fun q => q < wb.heap.size) (.slice Ay ys.length cy) ys ∧ LRep tyR w' (fun q => q < wb.heap.size) (.slice t.1.1 t.2.length t.1.2) t.2 ∧ Mod (fun q => q = h) wl w' ∧ w'.heap[E]? = some (.cells #[zi at2, .slice Ay ys.length cy, .slice t.1.1 t.2.length t.1.2] 97 (0, 0)) ∧ Cs w0 h A c bs p V M (codC n1 n2 (.slice Ab by_.length cb) (.slice Ah hs.length ch) (.slice Al ts.length cl)) w' sd) ?_ ?_
    rotate_left
    · intro K4 hK4
      refine call_ (typesJ_ok h A c bs p sc false wc kc.jr hO hm) ?_
      rintro e wd ⟨v, zs, sd, rfl, ld, rd, cd, od, qd, md⟩
      obtain ⟨Ad, cd', rfl, _⟩ := ld.get tyOk (by decide)
      refine ⟨_, rfl, ?_⟩
      have hEd := md.blk hEc (show ¬ E = h by omega)
      refine And.intro ⟨_, cellB hEd rfl⟩ (And.intro (fzB hEd _) (force_ ?_))
      refine stK hEd (show (2 : Nat) < 3 by decide) ?_
      intro we hbe me se
      exact hK4 ((Ad, cd'), zs) _ _ ⟨rfl, rfl, rfl, rfl, rfl, rfl, trivial⟩ ⟨sd, rd, cd, od, LRep.mod tyOk (by decide) (LRep.mod tyOk (by decide) lc (md.mono fun b _ e => by omega)) (me.mono fun b _ e => by omega), LRep.mod tyOk (by decide) (LRep.weak tyOk ld fun b _ e => by omega) (me.mono fun b _ e => by omega), Mod.trans (both mc md) me fun b hb e => by omega, hbe, Cs.loc q0 (kc.act md qd) me (fun b e => by omega) hlv⟩
    rintro ⟨⟨Az, cz⟩, zs⟩ wd frd ⟨sd, rd, cd, od, ly, lz, md, hEd, kd⟩
    dsimp only at rd cd lz hEd
    have hMd := kd.mb
    have mdz := md.size
    refine Exists.intro Al (Exists.intro ts.length (Exists.intro cl (And.intro (cellB hMd rfl) ?_)))
    refine loadN_row (vs := [zi at2, .slice Ay ys.length cy, .slice Az zs.length cz]) (rowB hEd) rfl ?_
    have n6 := New.alloc wd (.cells [zi at2, .slice Ay ys.length cy, .slice Az zs.length cz].toArray 97)
    have gd : wd.ownsRow w5.heap.size 97 3 (.slice Al ts.length cl) ts.length (cellsOf ts) := own_mod md gl.own (fun b hb e => by have := (gl.own.lt b hb).1; omega)
    refine append2_ ok rfl rfl rfl rfl (own_new n6 gd) rfl rfl (row_alloc wd [zi at2, .slice Ay ys.length cy, .slice Az zs.length cz] _ _) rfl (one_rmp _ _ _ _ _ _ _) (by decide) rfl (by show (ts.length + 1) * 56 ≤ _; omega) (by omega) (Nat.le_trans (Nat.le_trans h5l mdz) n6.size) ?_
    intro A7 c7 w7' own7 mod7 st7
    have k57 : Mod (fun b => some b = (Value.slice Al ts.length cl).ownBlock) wd w7' := Mod.trans n6.mod mod7 fun _ _ e => e
    have hmp : mpR wd (fun b => b < wl.heap.size) [zi at2, .slice Ay ys.length cy, .slice Az zs.length cz] ⟨at2, ys, zs⟩ := ⟨_, _, rfl, LRep.weak tyOk ly (fun b _ e => by omega), LRep.weak tyOk lz (fun b _ e => by omega)⟩
    have g7 := gl.step mpOk (w5 := wd) (x := (⟨at2, ys, zs⟩ : Mp)) (cs := [zi at2, .slice Ay ys.length cy, .slice Az zs.length cz]) hmp md (fun b e => by have := low b (.inl e); omega) k57 h5l own7 (fun b e => by
      rcases st7 b e.symm with e | e
      · exact .inl e.symm
      · exact .inr (Nat.le_trans n6.size e))
    have k7' := Cs.loc q0 kd k57 (fun b e => by have := (gl.own.lt b e.symm).1; omega) hlv
    have hM7 := k7'.mb
    refine And.intro ⟨_, cellB hM7 rfl⟩ (And.intro (fzB hM7 _) (force_ ?_))
    refine stK hM7 (show (4 : Nat) < 5 by decide) ?_
    intro w8' hb8 m8' s8'
    have m78 := k57.size
    have lb8 := LRep.mod u8Ok (by decide) (LRep.mod u8Ok (by decide) (LRep.mod u8Ok (by decide) lbl (md.mono fun b _ e => .inl (by omega))) (k57.mono fun b _ e => .inr (by have := (gl.own.lt b e.symm).1; omega))) (m8'.mono fun b _ e => .inl (by omega))
    have lh8 := LRep.mod hndOk (by decide) (LRep.mod hndOk (by decide) (LRep.mod hndOk (by decide) lhl (md.mono fun b _ e => .inl (by omega))) (k57.mono fun b _ e => .inr (by have := (gl.own.lt b e.symm).1; omega))) (m8'.mono fun b _ e => .inl (by omega))
    refine hK3 ((A7, c7), [zi at2, .slice Ay ys.length cy, .slice Az zs.length cz], ⟨at2, ys, zs⟩, sd) _ _ ⟨rfl, rfl, rfl, rfl, rfl, trivial⟩ ⟨by omega, ?_, oa.trans (ob.trans (oc.trans od)), ?_, hi2, g7.mod mpOk m8' (fun b e => by omega), lb8, lh8, k7'.put (q.mod k7'.jr m8' fun b e => by omega) m8' hb8⟩
    · exact RdS.byP (f := fun m : Mp => (255, m.at_ - last - 1, m.locals, m.stack)) (y := ⟨at2, ys, zs⟩) (RdS.seq (RdS.num1 (m := 255) ra) (rf.seq (RdS.seq (rc.S fun _ => True) (rd.S fun _ => True)))) (fun z hz => ⟨rfl, by show last + 1 + (z.at_ - last - 1) ≤ 65535; omega, trivial, trivial⟩) (fun z e => by
        cases z
        simp only [Prod.mk.injEq] at e
        simp only [Mp.mk.injEq]
        exact ⟨by omega, e.2.2.1, e.2.2.2⟩)
    · have a1 := oa.1
      have a2 := ob.1
      have a3 := oc.1
      have a4 := od.1
      show 7 + 3 * ys.length + 3 * zs.length ≤ _
      dsimp only
      omega
  rintro ⟨⟨Am, cm⟩, tm⟩ w9 fr9 ⟨s9, r9, o9, hcm, hlm, him, gm, lb9, lh9, k9⟩
  dsimp only at r9 hcm hlm him gm k9
  have lm9 := gm.rep mpOk hlm
  obtain ⟨ms, hms⟩ : ∃ ms, ms = tm.map (·.2) := ⟨_, rfl⟩
  have hlenm : tm.length = ms.length := by rw [hms, List.length_map]
  rw [← hms] at lm9 r9 hcm him
  rw [hlenm] at lm9 k9
  refine loadN_row (vs := (codC n1 n2 (.slice Ab by_.length cb) (.slice Ah hs.length ch) (.slice Am ms.length cm)).toList) (rowB k9.mb) rfl ?_
  refine And.intro rfl ?_
  refine storeN_all (vs := (codC n1 n2 (.slice Ab by_.length cb) (.slice Ah hs.length ch) (.slice Am ms.length cm)).toList) k9.vb rfl (ones5 _ _ _ _ _ _ _ _ _ _ _) ?_
  intro wf hbf mf sf
  refine loadN_row (vs := (codC n1 n2 (.slice Ab by_.length cb) (.slice Ah hs.length ch) (.slice Am ms.length cm)).toList) (rowB hbf) rfl ?_
  have a6 := o6.1
  have a7 := o7.1
  have a8 := o8.1
  have a9 := o9.1
  exact fin ms Am cm s9 w9 wf (LRep.weak mpOk lm9 fun b _ e => by omega) (LRep.weak u8Ok lb9 fun _ _ e => .inl e) (LRep.weak hndOk lh9 fun _ _ e => .inl e) (Rd.opt1u r6 hn6 r7 r8 r9 hm) (by omega) him (o6.trans (o7.trans (o8.trans o9))) k9 mf

end Go.Proofs.YtdcaafldnbcdkaaGreatDoor.Class

/-! ### KPar6 -/
namespace Go.Proofs.YtdcaafldnbcdkaaGreatDoor.Class
open Go Go.Proofs.YtdcaafldnbcdkaaGreatDoor Go.Proofs.YtdcaafldnbcdkaaGreatDoor.Eng Go.Proofs Go.Proofs.YtdcaafldnbcdkaaGreatDoor.Word Go.Proofs.YtdcaafldnbcdkaaGreatDoor.Fmt
open Go.Proofs.YtdcaafldnbcdkaaGreatDoor.Pool (Ent at_ poolF strV entC entV EntOk Pl OkPool both own_low tagAt readR)
set_option maxRecDepth 10000

theorem RdS.utfu {l : List Ent} {bs : List UInt8} {s s1 : RSt} {z y : List UInt8} (h : Rd (utfT l) bs s z s1) : RdS (utfT l) (fun x => x = y) bs s y s1 := ⟨h.1, h.2.1, fun hs y q hy ho e => by
  obtain ⟨_, h2, h3⟩ := h.2.2 hs y q ho e
  exact ⟨hy.symm, h2, h3⟩⟩
abbrev clsC (v0 : Value) (s1 s2 : List UInt8) (v1 v2 : Value) : Array Value := #[v0, strV s1, strV s2, v1, v2]
/-- A class that is being read: the reader, the boxes of the result and of the class. -/
structure Ps (w0 : World) (h : Nat) (A : Option Addr) (c : Nat) (bs : List UInt8) (p : Po) (V M : Nat) (vals : Array Value) (wl : World) (s' : RSt) : Prop where
  jr : Jr wl h A c bs p s'
  md : Mod (fun q => q = h ∨ q = M) w0 wl
  vb : wl.heap[V]? = some (.cells zeroC.toArray 28 (0, 0))
  mb : wl.heap[M]? = some (.cells vals 28 (0, 0))
  hv : V ≠ h ∧ M ≠ h ∧ V ≠ M ∧ h < w0.heap.size ∧ M < w0.heap.size
section
variable {w0 wl w' : World} {h : Nat} {A : Option Addr} {c : Nat} {bs : List UInt8} {p : Po} {V M : Nat} {vals vals' : Array Value} {s s' s'' : RSt}
theorem Ps.act (k : Ps w0 h A c bs p V M vals wl s') (m : Mod (fun q => q = h) wl w') (q : Jr w' h A c bs p s'') : Ps w0 h A c bs p V M vals w' s'' :=
  ⟨q, both k.md (m.mono fun _ _ e => .inl e), m.blk k.vb k.hv.1, m.blk k.mb k.hv.2.1, k.hv⟩
theorem Ps.loc {S : Nat → Prop} (q0 : Jr w0 h A c bs p s) (k : Ps w0 h A c bs p V M vals wl s') (m : Mod S wl w') (hS : ∀ b, S b → w0.heap.size ≤ b) (hV : V < w0.heap.size) : Ps w0 h A c bs p V M vals w' s' :=
  ⟨q0.mod k.jr m hS, Mod.trans k.md m fun b hb e => by have := hS b e; omega, m.blk k.vb (fun e => by have := hS _ e; omega), m.blk k.mb (fun e => by have := hS _ e; have := k.hv.2.2.2.2; omega), k.hv⟩
theorem Ps.put (k : Ps w0 h A c bs p V M vals wl s') (hq : Jr w' h A c bs p s') (m : Mod (fun q => q = M) wl w') (hb : w'.heap[M]? = some (.cells vals' 28 (0, 0))) : Ps w0 h A c bs p V M vals' w' s' :=
  ⟨hq, both k.md (m.mono fun _ _ e => .inr e), m.blk k.vb k.hv.2.2.1, hb, k.hv⟩
end
theorem rParse_ok (A : Option Addr) (c : Nat) (bs : List UInt8) (w : World) (hr : Row w A (bvs bs)) (hc : bs.length ≤ c) (ht : c ≤ 9223372036854775807) (hbig : bs.length ≤ 140737488355328) (hk : Kt w) (hG : 0 < w.heap.size) :
    Calls Tryz.prog 6 #[.slice A bs.length c] w (PRes w bs) := by
  have halt : ∀ a, A = some a → bs ≠ [] → a.block < w.heap.size := fun a ha hn => by
    refine hr.lt (fun e => hn ?_) ha
    have := congrArg List.length e
    rw [bvs_length] at this
    exact List.eq_nil_of_length_eq_zero this
  refine enter ok Tryz.func6 rfl rfl rfl ?_
  obtain ⟨V, hV⟩ : ∃ V, V = w.heap.size := ⟨_, rfl⟩
  refine seq_cut (σ := Unit) (fun _ => [(0, .slice A bs.length c), (2, .pointer (some ⟨V, 0, none⟩))]) (fun _ w' => New w w' ∧ w'.heap.size = w.heap.size + 1 ∧ w'.heap[V]? = some (.cells zeroC.toArray 28 (0, 0))) ?_ ?_
  rotate_left
  · intro K hK
    rw [hV] at hK
    exact hK () _ _ ⟨rfl, rfl, trivial⟩ ⟨New.alloc w _, by simp, heap_alloc_new w (.cells zeroC.toArray 28)⟩
  rintro _ wa fra ⟨na, hza, hVa⟩
  refine seq_cut (σ := Unit) (fun _ => [(0, .slice A bs.length c), (2, .pointer (some ⟨V, 0, none⟩))]) (fun _ w' => w' = wa ∧ bs.length ≤ 32768) ?_ ?_
  rotate_left
  · intro K hK
    refine if_p (fun hl => ?_) (fun hl => ?_)
    · replace hl : (32768 : Int) < (bs.length : Int) := hl
      refine And.intro rfl ?_
      refine storeN_all (vs := zeroC) hVa rfl one_zero ?_
      intro wz hbz mz sz
      refine loadN_row (vs := zeroC) (rowB hbz) rfl ?_
      exact pres_bad na mz (by omega) (fun x h => by have := (is_of h).2.2; omega) (by rw [if_pos (by omega)]; rfl)
    · replace hl : ¬ (32768 : Int) < (bs.length : Int) := hl
      exact hK () _ _ ⟨rfl, rfl, trivial⟩ ⟨rfl, by omega⟩
  rintro _ wy fry ⟨hwy, hlen⟩
  obtain rfl := hwy.symm
  -- the reader
  obtain ⟨h, hh⟩ : ∃ h, h = wa.heap.size := ⟨_, rfl⟩
  refine seq_cut (σ := Unit) (fun _ => [(0, .slice A bs.length c), (2, .pointer (some ⟨V, 0, none⟩)), (4, .pointer (some ⟨h, 0, none⟩))]) (fun _ w' => New wa w' ∧ Jr w' h A c bs ⟨none, 0, []⟩ (0, false)) ?_ ?_
  rotate_left
  · intro K hK
    have nb := New.alloc wa (.cells #[.slice A bs.length c, .int .i64 0, .slice none 0 0, .bool false] 66)
    have hb := heap_alloc_new wa (.cells #[.slice A bs.length c, .int .i64 0, .slice none 0 0, .bool false] 66)
    rw [hh] at hK
    refine hK () _ _ ⟨rfl, rfl, rfl, trivial⟩ ⟨nb, ⟨hb, hr.new (na.trans nb), fun hn a ha e => by have := halt a ha hn; omega, Nat.zero_le _, hc, ht⟩, ?_, fun a ha _ => (by cases ha)⟩
    exact ⟨rfl, (fun i cs hi => by simp at hi), (fun x hx => (by cases hx)), by decide⟩
  rintro _ wb frb ⟨nb, qb⟩
  have hbl := qb.lt
  have hVb := nb.blk hVa
  refine seq_cut (σ := Unit) (fun _ => [(0, .slice A bs.length c), (2, .pointer (some ⟨V, 0, none⟩)), (4, .pointer (some ⟨h, 0, none⟩))]) (fun _ w' => ∃ s', Jr w' h A c bs ⟨none, 0, []⟩ s' ∧ Mod (fun q => q = h) wb w') ?_ ?_
  rotate_left
  · intro K hK
    refine call_ (uJ_ok h A c bs ⟨none, 0, []⟩ (0, false) 8 Pool.w8 wb qb) ?_
    rintro e wc ⟨n, s1, rfl, rd1, hb1, o1, q1, m1⟩
    refine ⟨_, rfl, ?_⟩
    exact hK () _ _ ⟨rfl, rfl, rfl, trivial⟩ ⟨s1, q1, m1⟩
  rintro _ wc frc ⟨s1, qc, mc⟩
  have hVc := mc.blk hVb (by omega)
  have nc : New w wc := Mod.trans (na.trans nb) mc fun b hb e => by omega
  have szc := mc.size
  refine seq_cut (σ := Unit) (fun _ => [(0, .slice A bs.length c), (2, .pointer (some ⟨V, 0, none⟩)), (4, .pointer (some ⟨h, 0, none⟩))]) (fun _ w' => w' = wc ∧ 8 ≤ bs.length) ?_ ?_
  rotate_left
  · intro K hK
    refine if_p (fun hl => ?_) (fun hl => ?_)
    · replace hl : (bs.length : Int) < 8 := hl
      refine And.intro rfl ?_
      refine storeN_all (vs := zeroC) hVc rfl one_zero ?_
      intro wz hbz mz sz
      refine loadN_row (vs := zeroC) (rowB hbz) rfl ?_
      exact pres_bad nc mz (by omega) (fun x h => by have := (parse_hdr h).1; unfold getB at this; rw [if_neg (by decide), if_pos (by omega)] at this; cases this) (by rw [if_neg (by omega)]; rfl)
    · replace hl : ¬ (bs.length : Int) < 8 := hl
      exact hK () _ _ ⟨rfl, rfl, rfl, trivial⟩ ⟨rfl, by omega⟩
  rintro _ wy2 fry2 ⟨hwy2, hlen8⟩
  obtain rfl := hwy2.symm
  have hg8 : (getB bs 0 8).2.2 = 8 := by
    unfold getB
    rw [if_neg (by decide), if_neg (by omega)]
    rfl
  refine seq_cut (σ := Unit) (fun _ => [(0, .slice A bs.length c), (2, .pointer (some ⟨V, 0, none⟩)), (4, .pointer (some ⟨h, 0, none⟩))]) (fun _ w' => Jr w' h A c bs ⟨none, 0, []⟩ (8, false) ∧ Mod (fun q => q = h) wc w') ?_ ?_
  rotate_left
  · intro K hK
    have hb := qc.re.blk
    refine And.intro ⟨_, cellB hb rfl⟩ (And.intro (fzB hb _) (force_ ?_))
    refine stK hb (show (3 : Nat) < 4 by decide) ?_
    intro wd hbd md sd
    have qd := qc.set md hbd
    refine And.intro ⟨_, cellB hbd rfl⟩ (And.intro (fzB hbd _) (force_ ?_))
    refine stK hbd (show (1 : Nat) < 4 by decide) ?_
    intro we hbe me se
    exact hK () _ _ ⟨rfl, rfl, rfl, trivial⟩ ⟨qd.to ⟨hbe, row_mod2 me qd.re.row (fun hn a ha e => qd.re.off hn a ha e), qd.re.off, hlen8, hc, ht⟩ me, both md me⟩
  rintro _ wd frd ⟨qd, md⟩
  have hVd := md.blk hVc (by omega)
  have nd : New w wd := Mod.trans nc md fun b hb e => by omega
  have szd := md.size
  -- the pool
  refine seq_cut (σ := (Option Addr × Nat) × List Ent × Int) (fun t => [(0, .slice A bs.length c), (2, .pointer (some ⟨V, 0, none⟩)), (4, .pointer (some ⟨h, 0, none⟩)), (5, .slice t.1.1 t.2.1.length t.1.2), (6, zi t.2.2)]) (fun t w' => ∃ j, readR bs 8 = (t.2.1, j, t.2.2) ∧ w'.ownsRow wd.heap.size 85 5 (.slice t.1.1 t.2.1.length t.1.2) t.2.1.length (t.2.1.map entC).flatten ∧ (∀ x ∈ t.2.1, EntOk x) ∧ Jr w' h A c bs ⟨none, 0, []⟩ (j, false) ∧ Mod (fun q => q = h) wd w') ?_ ?_
  rotate_left
  · intro K hK
    refine call_ (RRead_ok h (.slice none 0 0) (.bool false) A c bs 8 wd qd.re hbig) ?_
    rintro e we ⟨v, l, j, er, hrr, rfl, own, oks, re, me⟩
    obtain ⟨Al, cl, rfl, _⟩ := own_slice own
    refine ⟨_, rfl, ?_⟩
    exact hK ((Al, cl), l, er) _ _ ⟨rfl, rfl, rfl, rfl, rfl, trivial⟩ ⟨j, hrr, own, oks, qd.to re me, me⟩
  rintro ⟨⟨Al, cl⟩, l, er⟩ we fre ⟨j, hrr, owne, oks, qe, me⟩
  dsimp only at hrr owne oks
  have hVe := me.blk hVd (by omega)
  have ne : New w we := Mod.trans nd me fun b hb e => by omega
  have sze := me.size
  refine seq_cut (σ := Unit) (fun _ => [(0, .slice A bs.length c), (2, .pointer (some ⟨V, 0, none⟩)), (4, .pointer (some ⟨h, 0, none⟩)), (5, .slice Al l.length cl)]) (fun _ w' => w' = we ∧ er = 0) ?_ ?_
  rotate_left
  · intro K hK
    refine if_n (fun hne => ?_) (fun h0 => ?_)
    · replace hne : ¬ er = 0 := hne
      refine And.intro rfl ?_
      refine storeN_all (vs := zeroC) hVe rfl one_zero ?_
      intro wz hbz mz sz
      refine loadN_row (vs := zeroC) (rowB hbz) rfl ?_
      exact pres_bad ne mz (by omega) (fun x h => by obtain ⟨_, j1, e2, _⟩ := parse_hdr h; rw [e2] at hrr; cases hrr; exact hne rfl) (by rw [if_neg (by omega)]; rfl)
    · exact hK () _ _ ⟨rfl, rfl, rfl, rfl, trivial⟩ ⟨rfl, h0⟩
  rintro _ wy3 fry3 ⟨hwy3, her⟩
  obtain rfl := hwy3.symm
  subst her
  obtain ⟨hO, hjl⟩ := read_pool (by omega) hrr
  have hl1024 := hO.2
  obtain ⟨hcl1, hcl2, hpl⟩ := Pool.pl_own owne rfl oks
  have lpe : LRep entR we (fun b => b < wd.heap.size) (.slice Al l.length cl) l := ents_rep owne (by omega) (fun b hb e => by omega)
  refine seq_cut (σ := Unit) (fun _ => [(0, .slice A bs.length c), (2, .pointer (some ⟨V, 0, none⟩)), (4, .pointer (some ⟨h, 0, none⟩)), (5, .slice Al l.length cl)]) (fun _ w' => Jr w' h A c bs ⟨Al, cl, l⟩ (j, false) ∧ Mod (fun q => q = h) we w') ?_ ?_
  rotate_left
  · intro K hK
    have hb := qe.re.blk
    refine And.intro ⟨_, cellB hb rfl⟩ (And.intro (fzB hb _) (force_ ?_))
    refine stK hb (show (2 : Nat) < 4 by decide) ?_
    intro wf hbf mf sf
    have hal : ∀ a, Al = some a → l ≠ [] → a.block ≠ h := fun a ha _ e => by have := (owne.lt a.block (by subst ha; rfl)).1; omega
    exact hK () _ _ ⟨rfl, rfl, rfl, rfl, trivial⟩ ⟨⟨⟨hbf, row_mod2 mf qe.re.row (fun hn a ha e => qe.re.off hn a ha e), qe.re.off, qe.re.at_, hc, ht⟩, hpl.mod mf hal, hal⟩, mf⟩
  rintro _ wf frf ⟨qf, mf⟩
  have hVf := mf.blk hVe (by omega)
  have nf : New w wf := Mod.trans ne mf fun b hb e => by omega
  have szf := mf.size
  have lpf := LRep.mod entOk (by decide) lpe (mf.mono fun b _ e => by omega)
  obtain ⟨M, hMe⟩ : ∃ M, M = wf.heap.size := ⟨_, rfl⟩
  have lpM : LRep entR wf (fun b => b < wd.heap.size ∨ M ≤ b) (.slice Al l.length cl) l := LRep.weak entOk lpf fun b hb e => e.resolve_right (by omega)
  refine seq_cut (σ := Unit) (fun _ => [(0, .slice A bs.length c), (2, .pointer (some ⟨V, 0, none⟩)), (4, .pointer (some ⟨h, 0, none⟩)), (7, .pointer (some ⟨M, 0, none⟩))]) (fun _ w' => New wf w' ∧ w'.heap.size = M + 1 ∧ w'.heap[M]? = some (.cells (clsC (.slice Al l.length cl) [] [] (.slice none 0 0) (.slice none 0 0)) 28 (0, 0))) ?_ ?_
  rotate_left
  · intro K hK
    refine And.intro rfl ?_
    refine storeNew (vs := (clsC (.slice Al l.length cl) [] [] (.slice none 0 0) (.slice none 0 0)).toList) (arr := zeroC.toArray) rfl (one_cls _ _ _ _ _ _ _ _ _ [] []) ?_
    intro wg hbg ng sg
    rw [hMe] at hK
    exact hK () _ _ ⟨rfl, rfl, rfl, rfl, trivial⟩ ⟨ng, sg, hbg⟩
  rintro _ w0 fr0 ⟨n0f, hsz, hM0⟩
  have q0 := qf.new n0f
  have hV0 := n0f.blk hVf
  have hlv : V < w0.heap.size := by omega
  have k0 : Ps w0 h A c bs ⟨Al, cl, l⟩ V M (clsC (.slice Al l.length cl) [] [] (.slice none 0 0) (.slice none 0 0)) w0 (j, false) := ⟨q0, Mod.refl _ _, hV0, hM0, by omega, by omega, by omega, by omega, by omega⟩
  have lp0 := LRep.mod entOk (by decide) lpM (n0f.mod.mono fun _ _ e => False.elim e)
  have low : ∀ b, (b = h ∨ b = M) → b < w0.heap.size := fun b e => by rcases e with e | e <;> omega
  have nw : ∀ {wl : World}, Mod (fun q => q = h ∨ q = M) w0 wl → New w wl := fun m => Mod.trans (nf.trans n0f) m fun b hb e => by rcases e with e | e <;> omega
  have lpw : ∀ {wl : World}, Mod (fun q => q = h ∨ q = M) w0 wl → LRep entR wl (fun b => b < wd.heap.size ∨ M ≤ b) (.slice Al l.length cl) l := fun m => LRep.mod entOk (by decide) lp0 (m.mono fun b _ e => by rcases e with e | e <;> omega)
  have hm : bs.length ≤ 1000000 := by omega
  -- its head
  refine seq_cut (σ := Int) (fun _ => [(0, .slice A bs.length c), (2, .pointer (some ⟨V, 0, none⟩)), (4, .pointer (some ⟨h, 0, none⟩)), (7, .pointer (some ⟨M, 0, none⟩))]) (fun k w' => ∃ s2, Rd Class.n2 bs (j, false) k s2 ∧ Ps w0 h A c bs ⟨Al, cl, l⟩ V M (clsC (.slice Al l.length cl) [] [] (.slice none 0 0) (.slice none 0 0)) w' s2) ?_ ?_
  rotate_left
  · intro K hK
    refine call_ (uJ_ok h A c bs ⟨Al, cl, l⟩ (j, false) 2 Pool.w2 w0 q0) ?_
    rintro e wx ⟨nx, sx, rfl, rx, hbx, ox, qx, mx⟩
    refine ⟨_, rfl, ?_⟩
    exact hK nx _ _ ⟨rfl, rfl, rfl, rfl, trivial⟩ ⟨sx, rx, k0.act mx qx⟩
  rintro k1 w1 fr1 ⟨s1, r1, p1⟩
  refine seq_cut (σ := List UInt8) (fun _ => [(0, .slice A bs.length c), (2, .pointer (some ⟨V, 0, none⟩)), (4, .pointer (some ⟨h, 0, none⟩)), (7, .pointer (some ⟨M, 0, none⟩))]) (fun nm w' => ∃ s2, Rd (clsT l) bs s1 nm s2 ∧ Ps w0 h A c bs ⟨Al, cl, l⟩ V M (clsC (.slice Al l.length cl) nm [] (.slice none 0 0) (.slice none 0 0)) w' s2) ?_ ?_
  rotate_left
  · intro K hK
    refine call_ (uJ_ok h A c bs ⟨Al, cl, l⟩ s1 2 Pool.w2 w1 p1.jr) ?_
    rintro e wx ⟨nx, sx, rfl, rx, hbx, ox, qx, mx⟩
    refine ⟨_, rfl, ?_⟩
    refine call_ (clsJ_ok h A c bs ⟨Al, cl, l⟩ sx s1 nx wx qx hO rx ox) ?_
    rintro e wy ⟨zy, sy, rfl, ry, oy, qy, my⟩
    refine ⟨_, rfl, ?_⟩
    have py := (p1.act mx qx).act my qy
    have hMy := py.mb
    refine And.intro ⟨_, cellB hMy rfl⟩ (And.intro (fzB hMy _) (force_ ?_))
    refine stK hMy (show (1 : Nat) < 5 by decide) ?_
    intro wz hbz mz sz
    exact hK zy _ _ ⟨rfl, rfl, rfl, rfl, trivial⟩ ⟨sy, ry, py.put (qf.mod py.jr mz fun b e => by omega) mz hbz⟩
  rintro nm w2 fr2 ⟨s2, r2, p2⟩
  refine seq_cut (σ := List UInt8) (fun _ => [(0, .slice A bs.length c), (2, .pointer (some ⟨V, 0, none⟩)), (4, .pointer (some ⟨h, 0, none⟩)), (7, .pointer (some ⟨M, 0, none⟩))]) (fun sp w' => ∃ s3, Rd (supT l) bs s2 sp s3 ∧ Ps w0 h A c bs ⟨Al, cl, l⟩ V M (clsC (.slice Al l.length cl) nm sp (.slice none 0 0) (.slice none 0 0)) w' s3) ?_ ?_
  rotate_left
  · intro K hK
    refine seq_cut (σ := Int) (fun n => [(0, .slice A bs.length c), (2, .pointer (some ⟨V, 0, none⟩)), (4, .pointer (some ⟨h, 0, none⟩)), (7, .pointer (some ⟨M, 0, none⟩)), (8, zi n)]) (fun n w' => ∃ s3, Rd Class.n2 bs s2 n s3 ∧ 0 ≤ n ∧ On s2 s3 ∧ Ps w0 h A c bs ⟨Al, cl, l⟩ V M (clsC (.slice Al l.length cl) nm [] (.slice none 0 0) (.slice none 0 0)) w' s3) ?_ ?_
    rotate_left
    · intro K2 hK2
      refine call_ (uJ_ok h A c bs ⟨Al, cl, l⟩ s2 2 Pool.w2 w2 p2.jr) ?_
      rintro e wx ⟨nx, sx, rfl, rx, hbx, ox, qx, mx⟩
      refine ⟨_, rfl, ?_⟩
      exact hK2 nx _ _ ⟨rfl, rfl, rfl, rfl, rfl, trivial⟩ ⟨sx, rx, hbx.1, ox, p2.act mx qx⟩
    rintro n w3 fr3 ⟨s3, r3, hn, o3, p3⟩
    refine if_p (fun hlt => ?_) (fun hge => ?_)
    · replace hlt : 0 < n := hlt
      refine call_ (clsJ_ok h A c bs ⟨Al, cl, l⟩ s3 s2 n w3 p3.jr hO r3 o3) ?_
      rintro e wy ⟨zy, sy, rfl, ry, oy, qy, my⟩
      refine ⟨_, rfl, ?_⟩
      have py := p3.act my qy
      have hMy := py.mb
      refine And.intro ⟨_, cellB hMy rfl⟩ (And.intro (fzB hMy _) (force_ ?_))
      refine stK hMy (show (2 : Nat) < 5 by decide) ?_
      intro wz hbz mz sz
      refine hK zy _ _ ⟨rfl, rfl, rfl, rfl, trivial⟩ ⟨sy, ?_, py.put (qf.mod py.jr mz fun b e => by omega) mz hbz⟩
      exact Rd.sup1 r3 (by omega) ry
    · replace hge : ¬ 0 < n := hge
      exact hK [] _ _ ⟨rfl, rfl, rfl, rfl, trivial⟩ ⟨s3, Rd.sup0 r3 (by omega), p3⟩
  rintro sp w3 fr3 ⟨s3, r3, p3⟩
  refine seq_cut (σ := Int) (fun _ => [(0, .slice A bs.length c), (2, .pointer (some ⟨V, 0, none⟩)), (4, .pointer (some ⟨h, 0, none⟩)), (7, .pointer (some ⟨M, 0, none⟩))]) (fun k w' => ∃ s4, Rd Class.n2 bs s3 k s4 ∧ Ps w0 h A c bs ⟨Al, cl, l⟩ V M (clsC (.slice Al l.length cl) nm sp (.slice none 0 0) (.slice none 0 0)) w' s4) ?_ ?_
  rotate_left
  · intro K hK
    refine call_ (uJ_ok h A c bs ⟨Al, cl, l⟩ s3 2 Pool.w2 w3 p3.jr) ?_
    rintro e wx ⟨nx, sx, rfl, rx, hbx, ox, qx, mx⟩
    refine ⟨_, rfl, ?_⟩
    exact hK nx _ _ ⟨rfl, rfl, rfl, rfl, trivial⟩ ⟨sx, rx, p3.act mx qx⟩
  rintro k4 w4 fr4 ⟨s4, r4, p4⟩
  refine seq_cut (σ := (Option Addr × Nat) × List (List Value × Fld)) (fun t => [(0, .slice A bs.length c), (2, .pointer (some ⟨V, 0, none⟩)), (4, .pointer (some ⟨h, 0, none⟩)), (7, .pointer (some ⟨M, 0, none⟩))]) (fun t w' => ∃ s5, Rd (fldsT l) bs s4 (t.2.map (·.2)) s5 ∧ csum cFld (t.2.map (·.2)) ≤ 8 * (s5.1 - s4.1) + 8 ∧ t.2.length ≤ 140737488355328 ∧ (∀ y ∈ t.2.map (·.2), i64 y.acc) ∧ Gl fldR 3 49 w4 w' (.slice t.1.1 t.2.length t.1.2) t.2 ∧ Ps w0 h A c bs ⟨Al, cl, l⟩ V M (clsC (.slice Al l.length cl) nm sp (.slice t.1.1 t.2.length t.1.2) (.slice none 0 0)) w' s5) ?_ ?_
  rotate_left
  · intro K hK
    refine seq_cut (σ := Int) (fun n => [(0, .slice A bs.length c), (2, .pointer (some ⟨V, 0, none⟩)), (4, .pointer (some ⟨h, 0, none⟩)), (7, .pointer (some ⟨M, 0, none⟩)), (9, zi n)]) (fun n w' => ∃ s5, Rd Class.n2 bs s4 n s5 ∧ (0 ≤ n ∧ n < 65536) ∧ On s4 s5 ∧ Mod (fun q => q = h) w4 w' ∧ Ps w0 h A c bs ⟨Al, cl, l⟩ V M (clsC (.slice Al l.length cl) nm sp (.slice none 0 0) (.slice none 0 0)) w' s5) ?_ ?_
    rotate_left
    · intro K2 hK2
      refine call_ (uJ_ok h A c bs ⟨Al, cl, l⟩ s4 2 Pool.w2 w4 p4.jr) ?_
      rintro e wa ⟨n, s5, rfl, r5, hb5, o5, q5, m5⟩
      refine ⟨_, rfl, ?_⟩
      exact hK2 n _ _ ⟨rfl, rfl, rfl, rfl, rfl, trivial⟩ ⟨s5, r5, hb5, o5, m5, p4.act m5 q5⟩
    rintro n w5 fr5 ⟨s5, r5, hn5, o5, m45, k5⟩
    have h45 := m45.size
    have h04 := p4.md.size
    refine den_loop (σ := ((Option Addr × Nat) × List (List Value × Fld)) × Int × RSt) (fun t => [(0, .slice A bs.length c), (2, .pointer (some ⟨V, 0, none⟩)), (4, .pointer (some ⟨h, 0, none⟩)), (7, .pointer (some ⟨M, 0, none⟩)), (9, zi t.2.1)])
      (fun m t wl => w4.heap.size ≤ wl.heap.size ∧ m = t.2.1.toNat ∧ LRd (fldT l) 256 bs s4 (t.1.2.map (·.2)) t.2.1.toNat t.2.2 ∧ t.2.1.toNat + t.1.2.length ≤ 65536 ∧ t.2.1 ≤ 65536 ∧ On s4 t.2.2 ∧ LCo cFld 0 8 s4 (t.1.2.map (·.2)) t.2.2 ∧ (∀ y ∈ t.1.2.map (·.2), i64 y.acc) ∧ Gl fldR 3 49 w4 wl (.slice t.1.1.1 t.1.2.length t.1.1.2) t.1.2 ∧ Ps w0 h A c bs ⟨Al, cl, l⟩ V M (clsC (.slice Al l.length cl) nm sp (.slice t.1.1.1 t.1.2.length t.1.1.2) (.slice none 0 0)) wl t.2.2) n.toNat (((none, 0), []), n, s5)
      ⟨rfl, rfl, rfl, rfl, rfl, trivial⟩ ⟨h45, rfl, LRd.start (by decide) r5, by simp; omega, by dsimp only; omega, o5, LCo.start, (fun _ h => (by cases h)), Gl.nil, k5⟩ ?_
    rintro m ⟨⟨⟨Ax, cx⟩, ts⟩, z, sl⟩ wl frl ⟨h4l, rfl, hinv, hcnt, hz65, onl, hco, hih, gl, kl⟩
    dsimp only at hinv hcnt hz65 onl hco hih gl kl
    have klz := kl.md.size
    have hsl := kl.jr.re.at_
    refine seq_cut (σ := Unit) (fun _ => [(0, .slice A bs.length c), (2, .pointer (some ⟨V, 0, none⟩)), (4, .pointer (some ⟨h, 0, none⟩)), (7, .pointer (some ⟨M, 0, none⟩)), (9, zi z)]) (fun _ w' => w' = wl ∧ 0 < z ∧ sl.2 = false) ?_ ?_
    rotate_left
    · intro K2 hK2
      have fin : (sl.2 = false → z.toNat = 0) → id (∃ s5, Rd (fldsT l) bs s4 (ts.map (·.2)) s5 ∧ csum cFld (ts.map (·.2)) ≤ 8 * (s5.1 - s4.1) + 8 ∧ ts.length ≤ 140737488355328 ∧ (∀ y ∈ ts.map (·.2), i64 y.acc) ∧ Gl fldR 3 49 w4 wl (.slice Ax ts.length cx) ts ∧ Ps w0 h A c bs ⟨Al, cl, l⟩ V M (clsC (.slice Al l.length cl) nm sp (.slice Ax ts.length cx) (.slice none 0 0)) wl s5) := fun hz =>
        ⟨sl, hinv.done hz, by have := hco.le.1; omega, by omega, hih, gl, kl⟩
      refine if_p (fun hlt => ?_) (fun hge => ?_)
      · replace hlt : 0 < z := hlt
        refine Exists.intro sl.2 (And.intro (cellB kl.jr.re.blk rfl) ?_)
        refine if_ (fun hz => ?_) (fun hz => ?_)
        · replace hz : sl.2 = false := by simpa using hz
          exact hK2 () _ _ ⟨rfl, rfl, rfl, rfl, rfl, trivial⟩ ⟨rfl, hlt, hz⟩
        · replace hz : sl.2 = true := by simpa using hz
          exact hK ((Ax, cx), ts) _ _ ⟨rfl, rfl, rfl, rfl, trivial⟩ (fin fun h => by rw [hz] at h; cases h)
      · replace hge : ¬ 0 < z := hge
        exact hK ((Ax, cx), ts) _ _ ⟨rfl, rfl, rfl, rfl, trivial⟩ (fin fun _ => by omega)
    rintro _ wyl fryl ⟨hwyl, hlt, hgood⟩
    obtain rfl := hwyl.symm
    obtain ⟨k, hk⟩ : ∃ k, z.toNat = k + 1 := ⟨z.toNat - 1, by omega⟩
    rw [hk] at hinv
    have hk' : (z - 1).toNat = k := by omega
    refine seq_cut (σ := (Option Addr × Nat) × List Value × Fld × RSt) (fun t => [(0, .slice A bs.length c), (2, .pointer (some ⟨V, 0, none⟩)), (4, .pointer (some ⟨h, 0, none⟩)), (7, .pointer (some ⟨M, 0, none⟩)), (9, zi z)]) (fun t w' => w4.heap.size ≤ w'.heap.size ∧ Rd (fldT l) bs sl t.2.2.1 t.2.2.2 ∧ On sl t.2.2.2 ∧ i64 t.2.2.1.acc ∧ Gl fldR 3 49 w4 w' (.slice t.1.1 (ts.length + 1) t.1.2) (ts ++ [(t.2.1, t.2.2.1)]) ∧ Ps w0 h A c bs ⟨Al, cl, l⟩ V M (clsC (.slice Al l.length cl) nm sp (.slice t.1.1 (ts.length + 1) t.1.2) (.slice none 0 0)) w' t.2.2.2) ?_ ?_
    · rintro ⟨⟨A7, c7⟩, cs7, x7, s7⟩ w7 fr7 ⟨h47, rd7, on7, ix7, g7, k7⟩
      dsimp only at rd7 on7 ix7 g7 k7
      have hl7 : (ts ++ [(cs7, x7)]).length = ts.length + 1 := by simp
      rw [← hl7] at g7 k7
      refine ⟨(z - 1).toNat, (((A7, c7), ts ++ [(cs7, x7)]), z - 1, s7), (by dsimp only; omega), ⟨rfl, rfl, rfl, rfl, (show zi (IntKind.i64.wrap (z - 1)) = zi (z - 1) by rw [wrap_i64 (by omega) (by omega)]), trivial⟩, h47, rfl, ?_, ?_, by dsimp only; omega, onl.trans on7, ?_, ?_, g7, k7⟩
      · dsimp only
        rw [hk', List.map_append]
        exact hinv.step rd7
      · dsimp only
        rw [hl7]
        omega
      · dsimp only
        rw [List.map_append]
        exact hco.step hinv.1 hgood (by show 8 ≤ _; omega) on7
      · intro y hy
        dsimp only at hy
        rw [List.map_append] at hy
        rcases List.mem_append.1 hy with hy | hy
        · exact hih y hy
        · rw [List.mem_singleton.1 hy]; exact ix7
    intro K3 hK3
    refine block_ ?_
    refine seq_cut (σ := Nat × Int) (fun t => [(0, .slice A bs.length c), (2, .pointer (some ⟨V, 0, none⟩)), (4, .pointer (some ⟨h, 0, none⟩)), (7, .pointer (some ⟨M, 0, none⟩)), (9, zi z), (10, .pointer (some ⟨t.1, 0, none⟩))]) (fun t w' => ∃ sa, Rd Class.n2 bs sl t.2 sa ∧ (0 ≤ t.2 ∧ t.2 < 65536) ∧ On sl sa ∧ Mod (fun q => q = h) wl w' ∧ wl.heap.size ≤ t.1 ∧ w'.heap[t.1]? = some (.cells #[zi t.2, strV [], strV []] 49 (0, 0)) ∧ Ps w0 h A c bs ⟨Al, cl, l⟩ V M (clsC (.slice Al l.length cl) nm sp (.slice Ax ts.length cx) (.slice none 0 0)) w' sa) ?_ ?_
    rotate_left
    · intro K4 hK4
      refine call_ (uJ_ok h A c bs ⟨Al, cl, l⟩ sl 2 Pool.w2 wl kl.jr) ?_
      rintro e wa ⟨na, sa, rfl, ra, hba, oa, qa, ma⟩
      refine ⟨_, rfl, ?_⟩
      refine And.intro rfl ?_
      refine storeNew (vs := [zi na, strV [], strV []]) (arr := #[zi 0, strV [], strV []]) rfl (one_rfld _ [] []) ?_
      intro wb hbb nb sb
      have mab := ma.trans nb (fun _ _ e => False.elim e)
      exact hK4 (wa.heap.size, na) _ _ ⟨rfl, rfl, rfl, rfl, rfl, rfl, trivial⟩ ⟨sa, ra, hba, oa, mab, ma.size, hbb, kl.act mab (qa.new nb)⟩
    rintro ⟨E, na⟩ wa fra ⟨sa, ra, hba, oa, ma, hEl, hEa, ka⟩
    dsimp only at ra hba hEl hEa
    have hwz : w0.heap.size ≤ E := by omega
    refine seq_cut (σ := List UInt8) (fun t => [(0, .slice A bs.length c), (2, .pointer (some ⟨V, 0, none⟩)), (4, .pointer (some ⟨h, 0, none⟩)), (7, .pointer (some ⟨M, 0, none⟩)), (9, zi z), (10, .pointer (some ⟨E, 0, none⟩))]) (fun t w' => ∃ sb, Rd (utfT l) bs sa t sb ∧ On sa sb ∧ Mod (fun q => q = h) wl w' ∧ w'.heap[E]? = some (.cells #[zi na, strV t, strV []] 49 (0, 0)) ∧ Ps w0 h A c bs ⟨Al, cl, l⟩ V M (clsC (.slice Al l.length cl) nm sp (.slice Ax ts.length cx) (.slice none 0 0)) w' sb) ?_ ?_
    rotate_left
    · intro K4 hK4
      refine call_ (utfJ_ok h A c bs ⟨Al, cl, l⟩ sa wa ka.jr hO) ?_
      rintro e wx ⟨zx, sx, rfl, rx, ox, qx, mx⟩
      refine ⟨_, rfl, ?_⟩
      have hEx := mx.blk hEa (show ¬ E = h by omega)
      refine And.intro ⟨_, cellB hEx rfl⟩ (And.intro (fzB hEx _) (force_ ?_))
      refine stK hEx (show (1 : Nat) < 3 by decide) ?_
      intro wy hby my sy
      have kx := ka.act mx qx
      exact hK4 zx _ _ ⟨rfl, rfl, rfl, rfl, rfl, rfl, trivial⟩ ⟨sx, rx, ox, Mod.trans (both ma mx) my fun b hb e => by omega, hby, Ps.loc q0 kx my (fun b e => by omega) hlv⟩
    rintro zb wb frb ⟨sb, rb, ob, mb, hEb, kb⟩
    refine seq_cut (σ := List UInt8) (fun t => [(0, .slice A bs.length c), (2, .pointer (some ⟨V, 0, none⟩)), (4, .pointer (some ⟨h, 0, none⟩)), (7, .pointer (some ⟨M, 0, none⟩)), (9, zi z), (10, .pointer (some ⟨E, 0, none⟩))]) (fun t w' => ∃ sc, Rd (utfT l) bs sb t sc ∧ On sb sc ∧ Mod (fun q => q = h) wl w' ∧ w'.heap[E]? = some (.cells #[zi na, strV zb, strV t] 49 (0, 0)) ∧ Ps w0 h A c bs ⟨Al, cl, l⟩ V M (clsC (.slice Al l.length cl) nm sp (.slice Ax ts.length cx) (.slice none 0 0)) w' sc) ?_ ?_
    rotate_left
    · intro K4 hK4
      refine call_ (utfJ_ok h A c bs ⟨Al, cl, l⟩ sb wb kb.jr hO) ?_
      rintro e wx ⟨zx, sx, rfl, rx, ox, qx, mx⟩
      refine ⟨_, rfl, ?_⟩
      have hEx := mx.blk hEb (show ¬ E = h by omega)
      refine And.intro ⟨_, cellB hEx rfl⟩ (And.intro (fzB hEx _) (force_ ?_))
      refine stK hEx (show (2 : Nat) < 3 by decide) ?_
      intro wy hby my sy
      have kx := kb.act mx qx
      exact hK4 zx _ _ ⟨rfl, rfl, rfl, rfl, rfl, rfl, trivial⟩ ⟨sx, rx, ox, Mod.trans (both mb mx) my fun b hb e => by omega, hby, Ps.loc q0 kx my (fun b e => by omega) hlv⟩
    rintro zc wc frc ⟨sc, rc, oc, mc, hEc, kc⟩
    refine seq_cut (σ := Int) (fun t => [(0, .slice A bs.length c), (2, .pointer (some ⟨V, 0, none⟩)), (4, .pointer (some ⟨h, 0, none⟩)), (7, .pointer (some ⟨M, 0, none⟩)), (9, zi z), (10, .pointer (some ⟨E, 0, none⟩))]) (fun t w' => ∃ sd, Rd (Class.n2) bs sc t sd ∧ On sc sd ∧ Mod (fun q => q = h) wl w' ∧ w'.heap[E]? = some (.cells #[zi na, strV zb, strV zc] 49 (0, 0)) ∧ Ps w0 h A c bs ⟨Al, cl, l⟩ V M (clsC (.slice Al l.length cl) nm sp (.slice Ax ts.length cx) (.slice none 0 0)) w' sd) ?_ ?_
    rotate_left
    · intro K4 hK4
      refine call_ (uJ_ok h A c bs ⟨Al, cl, l⟩ sc 2 Pool.w2 wc kc.jr) ?_
      rintro e wx ⟨zx, sx, rfl, rx, hbx, ox, qx, mx⟩
      refine ⟨_, rfl, ?_⟩
      exact hK4 zx _ _ ⟨rfl, rfl, rfl, rfl, rfl, rfl, trivial⟩ ⟨sx, rx, ox, both mc mx, mx.blk hEc (show ¬ E = h by omega), kc.act mx qx⟩
    rintro zd wd frd ⟨sd, rd, od, md, hEd, kd⟩
    have hMd := kd.mb
    have mdz := md.size
    refine Exists.intro Ax (Exists.intro ts.length (Exists.intro cx (And.intro (cellB hMd rfl) ?_)))
    refine loadN_row (vs := [zi na, strV zb, strV zc]) (rowB hEd) rfl ?_
    have n6 := New.alloc wd (.cells [zi na, strV zb, strV zc].toArray 49)
    have gd : wd.ownsRow w4.heap.size 49 3 (.slice Ax ts.length cx) ts.length (cellsOf ts) := own_mod md gl.own (fun b hb e => by have := (gl.own.lt b hb).1; omega)
    refine append2_ ok rfl rfl rfl rfl (own_new n6 gd) rfl rfl (row_alloc wd [zi na, strV zb, strV zc] _ _) rfl (fldOk.one (w := wd) (S := fun _ => False) (x := ⟨na, zb, zc⟩) rfl) (by decide) rfl (by show (ts.length + 1) * 40 ≤ _; omega) (by omega) (Nat.le_trans (Nat.le_trans h4l mdz) n6.size) ?_
    intro A7 c7 w7 own7 mod7 st7
    have k57 : Mod (fun b => some b = (Value.slice Ax ts.length cx).ownBlock) wd w7 := Mod.trans n6.mod mod7 fun _ _ e => e
    have g7 := gl.step fldOk (w5 := wd) (x := (⟨na, zb, zc⟩ : Fld)) (cs := [zi na, strV zb, strV zc]) rfl md (fun b e => by have := low b (.inl e); omega) k57 h4l own7 (fun b e => by
      rcases st7 b e.symm with e | e
      · exact .inl e.symm
      · exact .inr (Nat.le_trans n6.size e))
    have k7 := Ps.loc q0 kd k57 (fun b e => by have := (gl.own.lt b e.symm).1; omega) hlv
    have hM7 := k7.mb
    refine And.intro ⟨_, cellB hM7 rfl⟩ (And.intro (fzB hM7 _) (force_ ?_))
    refine stK hM7 (show (3 : Nat) < 5 by decide) ?_
    intro w8 hb8 m8 s8
    have m78 := k57.size
    refine hK3 ((A7, c7), [zi na, strV zb, strV zc], ⟨na, zb, zc⟩, sd) _ _ ⟨rfl, rfl, rfl, rfl, rfl, trivial⟩ ⟨by omega, ?_, oa.trans (ob.trans (oc.trans od)), by unfold i64; dsimp only; omega, g7.mod fldOk m8 (fun b e => by omega), k7.put (qf.mod k7.jr m8 fun b e => by omega) m8 hb8⟩
    exact RdS.byP (f := fun f : Fld => (f.acc, f.name, f.typ, 0)) (y := ⟨na, zb, zc⟩) (RdS.seq (ra.S fun _ => True) (RdS.seq (rb.S fun _ => True) (RdS.seq (rc.S fun _ => True) (RdS.num (m := 0) rd)))) (fun z hz => ⟨trivial, trivial, trivial, rfl⟩) (fun z e => by cases z; cases e; rfl)
  rintro ⟨⟨Af, cf⟩, tf⟩ w5 fr5 ⟨s5, r5, hcf, hlf, hif, gf, p5⟩
  dsimp only at r5 hcf hlf hif gf p5
  have lf5 := gf.rep fldOk hlf
  obtain ⟨fs, hfs⟩ : ∃ fs, fs = tf.map (·.2) := ⟨_, rfl⟩
  have hlenf : tf.length = fs.length := by rw [hfs, List.length_map]
  rw [← hfs] at lf5 r5 hcf hif
  rw [hlenf] at lf5 p5
  have h04 := p4.md.size
  have h05 := p5.md.size
  have lf50 := LRep.weak (S' := fun q => q < w0.heap.size ∨ w5.heap.size ≤ q) fldOk lf5 fun b hb e => by have := e.resolve_right (by omega); omega
  refine seq_cut (σ := (Option Addr × Nat) × List (List Value × Mth)) (fun t => [(0, .slice A bs.length c), (2, .pointer (some ⟨V, 0, none⟩)), (4, .pointer (some ⟨h, 0, none⟩)), (7, .pointer (some ⟨M, 0, none⟩))]) (fun t w' => ∃ s6, Rd (mthsT l) bs s5 (t.2.map (·.2)) s6 ∧ csum cMth (t.2.map (·.2)) ≤ 86 * (s6.1 - s5.1) + 61 ∧ t.2.length ≤ 140737488355328 ∧ (∀ y ∈ t.2.map (·.2), i64 y.acc ∧ iCod y.code) ∧ Gl mthR 8 58 w5 w' (.slice t.1.1 t.2.length t.1.2) t.2 ∧ LRep fldR w' (fun q => q < w0.heap.size ∨ w5.heap.size ≤ q) (.slice Af fs.length cf) fs ∧ Ps w0 h A c bs ⟨Al, cl, l⟩ V M (clsC (.slice Al l.length cl) nm sp (.slice Af fs.length cf) (.slice t.1.1 t.2.length t.1.2)) w' s6) ?_ ?_
  rotate_left
  · intro K hK
    refine seq_cut (σ := Int) (fun n => [(0, .slice A bs.length c), (2, .pointer (some ⟨V, 0, none⟩)), (4, .pointer (some ⟨h, 0, none⟩)), (7, .pointer (some ⟨M, 0, none⟩)), (11, zi n)]) (fun n w' => ∃ s6, Rd Class.n2 bs s5 n s6 ∧ (0 ≤ n ∧ n < 65536) ∧ On s5 s6 ∧ Mod (fun q => q = h) w5 w' ∧ Ps w0 h A c bs ⟨Al, cl, l⟩ V M (clsC (.slice Al l.length cl) nm sp (.slice Af fs.length cf) (.slice none 0 0)) w' s6) ?_ ?_
    rotate_left
    · intro K2 hK2
      refine call_ (uJ_ok h A c bs ⟨Al, cl, l⟩ s5 2 Pool.w2 w5 p5.jr) ?_
      rintro e wa ⟨n, s6, rfl, r6, hb6, o6, q6, m6⟩
      refine ⟨_, rfl, ?_⟩
      exact hK2 n _ _ ⟨rfl, rfl, rfl, rfl, rfl, trivial⟩ ⟨s6, r6, hb6, o6, m6, p5.act m6 q6⟩
    rintro n w6 fr6 ⟨s6, r6, hn6, o6, m56, k6⟩
    have h56 := m56.size
    have lf6 := LRep.mod fldOk (by decide) lf50 (m56.mono fun b _ e => .inl (by omega))
    refine den_loop (σ := ((Option Addr × Nat) × List (List Value × Mth)) × Int × RSt) (fun t => [(0, .slice A bs.length c), (2, .pointer (some ⟨V, 0, none⟩)), (4, .pointer (some ⟨h, 0, none⟩)), (7, .pointer (some ⟨M, 0, none⟩)), (11, zi t.2.1)])
      (fun m t wl => w5.heap.size ≤ wl.heap.size ∧ m = t.2.1.toNat ∧ LRd (mthT l) 256 bs s5 (t.1.2.map (·.2)) t.2.1.toNat t.2.2 ∧ t.2.1.toNat + t.1.2.length ≤ 65536 ∧ t.2.1 ≤ 65536 ∧ On s5 t.2.2 ∧ LCo cMth 25 61 s5 (t.1.2.map (·.2)) t.2.2 ∧ (∀ y ∈ t.1.2.map (·.2), i64 y.acc ∧ iCod y.code) ∧ Gl mthR 8 58 w5 wl (.slice t.1.1.1 t.1.2.length t.1.1.2) t.1.2 ∧ LRep fldR wl (fun q => q < w0.heap.size ∨ w5.heap.size ≤ q) (.slice Af fs.length cf) fs ∧ Ps w0 h A c bs ⟨Al, cl, l⟩ V M (clsC (.slice Al l.length cl) nm sp (.slice Af fs.length cf) (.slice t.1.1.1 t.1.2.length t.1.1.2)) wl t.2.2) n.toNat (((none, 0), []), n, s6)
      ⟨rfl, rfl, rfl, rfl, rfl, trivial⟩ ⟨h56, rfl, LRd.start (by decide) r6, by simp; omega, by dsimp only; omega, o6, LCo.start, (fun _ h => (by cases h)), Gl.nil, lf6, k6⟩ ?_
    rintro m ⟨⟨⟨Ax, cx⟩, ts⟩, z, sl⟩ wl frl ⟨h5l, rfl, hinv, hcnt, hz65, onl, hco, hih, gl, lfl, kl⟩
    dsimp only at hinv hcnt hz65 onl hco hih gl lfl kl
    have klz := kl.md.size
    have hsl := kl.jr.re.at_
    refine seq_cut (σ := Unit) (fun _ => [(0, .slice A bs.length c), (2, .pointer (some ⟨V, 0, none⟩)), (4, .pointer (some ⟨h, 0, none⟩)), (7, .pointer (some ⟨M, 0, none⟩)), (11, zi z)]) (fun _ w' => w' = wl ∧ 0 < z ∧ sl.2 = false) ?_ ?_
    rotate_left
    · intro K2 hK2
      have fin : (sl.2 = false → z.toNat = 0) → id (∃ s6, Rd (mthsT l) bs s5 (ts.map (·.2)) s6 ∧ csum cMth (ts.map (·.2)) ≤ 86 * (s6.1 - s5.1) + 61 ∧ ts.length ≤ 140737488355328 ∧ (∀ y ∈ ts.map (·.2), i64 y.acc ∧ iCod y.code) ∧ Gl mthR 8 58 w5 wl (.slice Ax ts.length cx) ts ∧ LRep fldR wl (fun q => q < w0.heap.size ∨ w5.heap.size ≤ q) (.slice Af fs.length cf) fs ∧ Ps w0 h A c bs ⟨Al, cl, l⟩ V M (clsC (.slice Al l.length cl) nm sp (.slice Af fs.length cf) (.slice Ax ts.length cx)) wl s6) := fun hz =>
        ⟨sl, hinv.done hz, by have := hco.le.1; omega, by omega, hih, gl, lfl, kl⟩
      refine if_p (fun hlt => ?_) (fun hge => ?_)
      · replace hlt : 0 < z := hlt
        refine Exists.intro sl.2 (And.intro (cellB kl.jr.re.blk rfl) ?_)
        refine if_ (fun hz => ?_) (fun hz => ?_)
        · replace hz : sl.2 = false := by simpa using hz
          exact hK2 () _ _ ⟨rfl, rfl, rfl, rfl, rfl, trivial⟩ ⟨rfl, hlt, hz⟩
        · replace hz : sl.2 = true := by simpa using hz
          exact hK ((Ax, cx), ts) _ _ ⟨rfl, rfl, rfl, rfl, trivial⟩ (fin fun h => by rw [hz] at h; cases h)
      · replace hge : ¬ 0 < z := hge
        exact hK ((Ax, cx), ts) _ _ ⟨rfl, rfl, rfl, rfl, trivial⟩ (fin fun _ => by omega)
    rintro _ wyl fryl ⟨hwyl, hlt, hgood⟩
    obtain rfl := hwyl.symm
    obtain ⟨k, hk⟩ : ∃ k, z.toNat = k + 1 := ⟨z.toNat - 1, by omega⟩
    rw [hk] at hinv
    have hk' : (z - 1).toNat = k := by omega
    refine seq_cut (σ := (Option Addr × Nat) × List Value × Mth × RSt) (fun t => [(0, .slice A bs.length c), (2, .pointer (some ⟨V, 0, none⟩)), (4, .pointer (some ⟨h, 0, none⟩)), (7, .pointer (some ⟨M, 0, none⟩)), (11, zi z)]) (fun t w' => w5.heap.size ≤ w'.heap.size ∧ Rd (mthT l) bs sl t.2.2.1 t.2.2.2 ∧ On sl t.2.2.2 ∧ cMth t.2.2.1 ≤ 25 * (t.2.2.2.1 - sl.1) + 61 ∧ (i64 t.2.2.1.acc ∧ iCod t.2.2.1.code) ∧ Gl mthR 8 58 w5 w' (.slice t.1.1 (ts.length + 1) t.1.2) (ts ++ [(t.2.1, t.2.2.1)]) ∧ LRep fldR w' (fun q => q < w0.heap.size ∨ w5.heap.size ≤ q) (.slice Af fs.length cf) fs ∧ Ps w0 h A c bs ⟨Al, cl, l⟩ V M (clsC (.slice Al l.length cl) nm sp (.slice Af fs.length cf) (.slice t.1.1 (ts.length + 1) t.1.2)) w' t.2.2.2) ?_ ?_
    · rintro ⟨⟨A7, c7⟩, cs7, x7, s7⟩ w7 fr7 ⟨h47, rd7, on7, co7, ix7, g7, lf7, k7⟩
      dsimp only at rd7 on7 co7 ix7 g7 k7
      have hl7 : (ts ++ [(cs7, x7)]).length = ts.length + 1 := by simp
      rw [← hl7] at g7 k7
      refine ⟨(z - 1).toNat, (((A7, c7), ts ++ [(cs7, x7)]), z - 1, s7), (by dsimp only; omega), ⟨rfl, rfl, rfl, rfl, (show zi (IntKind.i64.wrap (z - 1)) = zi (z - 1) by rw [wrap_i64 (by omega) (by omega)]), trivial⟩, h47, rfl, ?_, ?_, by dsimp only; omega, onl.trans on7, ?_, ?_, g7, lf7, k7⟩
      · dsimp only
        rw [hk', List.map_append]
        exact hinv.step rd7
      · dsimp only
        rw [hl7]
        omega
      · dsimp only
        rw [List.map_append]
        exact hco.step hinv.1 hgood co7 on7
      · intro y hy
        dsimp only at hy
        rw [List.map_append] at hy
        rcases List.mem_append.1 hy with hy | hy
        · exact hih y hy
        · rw [List.mem_singleton.1 hy]; exact ix7
    intro K3 hK3
    refine block_ ?_
    refine seq_cut (σ := Nat × Int) (fun t => [(0, .slice A bs.length c), (2, .pointer (some ⟨V, 0, none⟩)), (4, .pointer (some ⟨h, 0, none⟩)), (7, .pointer (some ⟨M, 0, none⟩)), (11, zi z), (12, .pointer (some ⟨t.1, 0, none⟩))]) (fun t w' => ∃ sa, Rd Class.n2 bs sl t.2 sa ∧ (0 ≤ t.2 ∧ t.2 < 65536) ∧ On sl sa ∧ Mod (fun q => q = h) wl w' ∧ wl.heap.size ≤ t.1 ∧ w'.heap[t.1]? = some (.cells #[zi t.2, strV [], strV [], zi 0, zi 0, .slice none 0 0, .slice none 0 0, .slice none 0 0] 58 (0, 0)) ∧ Ps w0 h A c bs ⟨Al, cl, l⟩ V M (clsC (.slice Al l.length cl) nm sp (.slice Af fs.length cf) (.slice Ax ts.length cx)) w' sa) ?_ ?_
    rotate_left
    · intro K4 hK4
      refine call_ (uJ_ok h A c bs ⟨Al, cl, l⟩ sl 2 Pool.w2 wl kl.jr) ?_
      rintro e wa ⟨na, sa, rfl, ra, hba, oa, qa, ma⟩
      refine ⟨_, rfl, ?_⟩
      refine And.intro rfl ?_
      refine storeNew (vs := [zi na, strV [], strV [], zi 0, zi 0, .slice none 0 0, .slice none 0 0, .slice none 0 0]) (arr := #[zi 0, strV [], strV [], zi 0, zi 0, .slice none 0 0, .slice none 0 0, .slice none 0 0]) rfl (one_rmth _ [] [] _ _ _ _ _ _ _ _ _ _ _) ?_
      intro wb hbb nb sb
      have mab := ma.trans nb (fun _ _ e => False.elim e)
      exact hK4 (wa.heap.size, na) _ _ ⟨rfl, rfl, rfl, rfl, rfl, rfl, trivial⟩ ⟨sa, ra, hba, oa, mab, ma.size, hbb, kl.act mab (qa.new nb)⟩
    rintro ⟨E, na⟩ wa fra ⟨sa, ra, hba, oa, ma, hEl, hEa, ka⟩
    dsimp only at ra hba hEl hEa
    have hwz : w0.heap.size ≤ E := by omega
    refine seq_cut (σ := List UInt8) (fun t => [(0, .slice A bs.length c), (2, .pointer (some ⟨V, 0, none⟩)), (4, .pointer (some ⟨h, 0, none⟩)), (7, .pointer (some ⟨M, 0, none⟩)), (11, zi z), (12, .pointer (some ⟨E, 0, none⟩))]) (fun t w' => ∃ sb, Rd (utfT l) bs sa t sb ∧ On sa sb ∧ Mod (fun q => q = h) wl w' ∧ w'.heap[E]? = some (.cells #[zi na, strV t, strV [], zi 0, zi 0, .slice none 0 0, .slice none 0 0, .slice none 0 0] 58 (0, 0)) ∧ Ps w0 h A c bs ⟨Al, cl, l⟩ V M (clsC (.slice Al l.length cl) nm sp (.slice Af fs.length cf) (.slice Ax ts.length cx)) w' sb) ?_ ?_
    rotate_left
    · intro K4 hK4
      refine call_ (utfJ_ok h A c bs ⟨Al, cl, l⟩ sa wa ka.jr hO) ?_
      rintro e wx ⟨zx, sx, rfl, rx, ox, qx, mx⟩
      refine ⟨_, rfl, ?_⟩
      have hEx := mx.blk hEa (show ¬ E = h by omega)
      refine And.intro ⟨_, cellB hEx rfl⟩ (And.intro (fzB hEx _) (force_ ?_))
      refine stK hEx (show (1 : Nat) < 8 by decide) ?_
      intro wy hby my sy
      have kx := ka.act mx qx
      exact hK4 zx _ _ ⟨rfl, rfl, rfl, rfl, rfl, rfl, trivial⟩ ⟨sx, rx, ox, Mod.trans (both ma mx) my fun b hb e => by omega, hby, Ps.loc q0 kx my (fun b e => by omega) hlv⟩
    rintro zb wb frb ⟨sb, rb, ob, mb, hEb, kb⟩
    refine seq_cut (σ := List UInt8) (fun t => [(0, .slice A bs.length c), (2, .pointer (some ⟨V, 0, none⟩)), (4, .pointer (some ⟨h, 0, none⟩)), (7, .pointer (some ⟨M, 0, none⟩)), (11, zi z), (12, .pointer (some ⟨E, 0, none⟩))]) (fun t w' => ∃ sc, Rd (utfT l) bs sb t sc ∧ On sb sc ∧ Mod (fun q => q = h) wl w' ∧ w'.heap[E]? = some (.cells #[zi na, strV zb, strV t, zi 0, zi 0, .slice none 0 0, .slice none 0 0, .slice none 0 0] 58 (0, 0)) ∧ Ps w0 h A c bs ⟨Al, cl, l⟩ V M (clsC (.slice Al l.length cl) nm sp (.slice Af fs.length cf) (.slice Ax ts.length cx)) w' sc) ?_ ?_
    rotate_left
    · intro K4 hK4
      refine call_ (utfJ_ok h A c bs ⟨Al, cl, l⟩ sb wb kb.jr hO) ?_
      rintro e wx ⟨zx, sx, rfl, rx, ox, qx, mx⟩
      refine ⟨_, rfl, ?_⟩
      have hEx := mx.blk hEb (show ¬ E = h by omega)
      refine And.intro ⟨_, cellB hEx rfl⟩ (And.intro (fzB hEx _) (force_ ?_))
      refine stK hEx (show (2 : Nat) < 8 by decide) ?_
      intro wy hby my sy
      have kx := kb.act mx qx
      exact hK4 zx _ _ ⟨rfl, rfl, rfl, rfl, rfl, rfl, trivial⟩ ⟨sx, rx, ox, Mod.trans (both mb mx) my fun b hb e => by omega, hby, Ps.loc q0 kx my (fun b e => by omega) hlv⟩
    rintro zc wc frc ⟨sc, rc, oc, mc, hEc, kc⟩
    refine seq_cut (σ := Int) (fun t => [(0, .slice A bs.length c), (2, .pointer (some ⟨V, 0, none⟩)), (4, .pointer (some ⟨h, 0, none⟩)), (7, .pointer (some ⟨M, 0, none⟩)), (11, zi z), (12, .pointer (some ⟨E, 0, none⟩))]) (fun t w' => ∃ sd, Rd (Class.n2) bs sc t sd ∧ On sc sd ∧ Mod (fun q => q = h) wl w' ∧ w'.heap[E]? = some (.cells #[zi na, strV zb, strV zc, zi 0, zi 0, .slice none 0 0, .slice none 0 0, .slice none 0 0] 58 (0, 0)) ∧ Ps w0 h A c bs ⟨Al, cl, l⟩ V M (clsC (.slice Al l.length cl) nm sp (.slice Af fs.length cf) (.slice Ax ts.length cx)) w' sd) ?_ ?_
    rotate_left
    · intro K4 hK4
      refine call_ (uJ_ok h A c bs ⟨Al, cl, l⟩ sc 2 Pool.w2 wc kc.jr) ?_
      rintro e wx ⟨zx, sx, rfl, rx, hbx, ox, qx, mx⟩
      refine ⟨_, rfl, ?_⟩
      exact hK4 zx _ _ ⟨rfl, rfl, rfl, rfl, rfl, rfl, trivial⟩ ⟨sx, rx, ox, both mc mx, mx.blk hEc (show ¬ E = h by omega), kc.act mx qx⟩
    rintro zd wd frd ⟨sd, rd, od, md, hEd, kd⟩
    refine seq_cut (σ := List UInt8) (fun t => [(0, .slice A bs.length c), (2, .pointer (some ⟨V, 0, none⟩)), (4, .pointer (some ⟨h, 0, none⟩)), (7, .pointer (some ⟨M, 0, none⟩)), (11, zi z), (12, .pointer (some ⟨E, 0, none⟩))]) (fun t w' => ∃ se, Rd (utfT l) bs sd t se ∧ On sd se ∧ Mod (fun q => q = h) wl w' ∧ w'.heap[E]? = some (.cells #[zi na, strV zb, strV zc, zi 0, zi 0, .slice none 0 0, .slice none 0 0, .slice none 0 0] 58 (0, 0)) ∧ Ps w0 h A c bs ⟨Al, cl, l⟩ V M (clsC (.slice Al l.length cl) nm sp (.slice Af fs.length cf) (.slice Ax ts.length cx)) w' se) ?_ ?_
    rotate_left
    · intro K4 hK4
      refine call_ (utfJ_ok h A c bs ⟨Al, cl, l⟩ sd wd kd.jr hO) ?_
      rintro e wx ⟨zx, sx, rfl, rx, ox, qx, mx⟩
      refine ⟨_, rfl, ?_⟩
      exact hK4 zx _ _ ⟨rfl, rfl, rfl, rfl, rfl, rfl, trivial⟩ ⟨sx, rx, ox, both md mx, mx.blk hEd (show ¬ E = h by omega), kd.act mx qx⟩
    rintro ze we fre ⟨se, re, oe, me, hEe, ke⟩
    refine seq_cut (σ := Int) (fun t => [(0, .slice A bs.length c), (2, .pointer (some ⟨V, 0, none⟩)), (4, .pointer (some ⟨h, 0, none⟩)), (7, .pointer (some ⟨M, 0, none⟩)), (11, zi z), (12, .pointer (some ⟨E, 0, none⟩))]) (fun t w' => ∃ sf, Rd (Class.n4) bs se t sf ∧ On se sf ∧ Mod (fun q => q = h) wl w' ∧ w'.heap[E]? = some (.cells #[zi na, strV zb, strV zc, zi 0, zi 0, .slice none 0 0, .slice none 0 0, .slice none 0 0] 58 (0, 0)) ∧ Ps w0 h A c bs ⟨Al, cl, l⟩ V M (clsC (.slice Al l.length cl) nm sp (.slice Af fs.length cf) (.slice Ax ts.length cx)) w' sf) ?_ ?_
    rotate_left
    · intro K4 hK4
      refine call_ (uJ_ok h A c bs ⟨Al, cl, l⟩ se 4 Pool.w4 we ke.jr) ?_
      rintro e wx ⟨zx, sx, rfl, rx, hbx, ox, qx, mx⟩
      refine ⟨_, rfl, ?_⟩
      exact hK4 zx _ _ ⟨rfl, rfl, rfl, rfl, rfl, rfl, trivial⟩ ⟨sx, rx, ox, both me mx, mx.blk hEe (show ¬ E = h by omega), ke.act mx qx⟩
    rintro zf wf frf ⟨sf, rf, of, mf', hEf, kf⟩
    refine seq_cut (σ := ((Option Addr × Nat) × (Option Addr × Nat) × Option Addr × Nat) × Cod) (fun t => [(0, .slice A bs.length c), (2, .pointer (some ⟨V, 0, none⟩)), (4, .pointer (some ⟨h, 0, none⟩)), (7, .pointer (some ⟨M, 0, none⟩)), (11, zi z), (12, .pointer (some ⟨E, 0, none⟩))]) (fun t w' => ∃ sg, Rd (codT l) bs sf t.2 sg ∧ cCod t.2 ≤ 25 * (sg.1 - sf.1) + 47 ∧ iCod t.2 ∧ On sf sg ∧ LRep u8R w' (fun b => b < wf.heap.size) (.slice t.1.1.1 t.2.bytes.length t.1.1.2) t.2.bytes ∧ LRep hndR w' (fun b => b < wf.heap.size) (.slice t.1.2.1.1 t.2.hands.length t.1.2.1.2) t.2.hands ∧ LRep mpR w' (fun b => b < wf.heap.size) (.slice t.1.2.2.1 t.2.maps.length t.1.2.2.2) t.2.maps ∧ Mod (fun q => q = h) wl w' ∧ w'.heap[E]? = some (.cells #[zi na, strV zb, strV zc, zi t.2.stack, zi t.2.locals, .slice t.1.1.1 t.2.bytes.length t.1.1.2, .slice t.1.2.1.1 t.2.hands.length t.1.2.1.2, .slice t.1.2.2.1 t.2.maps.length t.1.2.2.2] 58 (0, 0)) ∧ Ps w0 h A c bs ⟨Al, cl, l⟩ V M (clsC (.slice Al l.length cl) nm sp (.slice Af fs.length cf) (.slice Ax ts.length cx)) w' sg) ?_ ?_
    rotate_left
    · intro K4 hK4
      have hEfl : E < wf.heap.size := (Array.getElem?_eq_some_iff.1 hEf).1
      have hwlf := mf'.size
      refine call_ (codeJ_ok h A c bs ⟨Al, cl, l⟩ sf wf kf.jr hO hm) ?_
      rintro e wx ⟨csx, d, sx, rfl, hcx, hix, rx, cx', ox, qx, mx⟩
      obtain ⟨_, _, _, rfl, l0, l1, l2⟩ := hcx
      obtain ⟨A0, c0, rfl, _⟩ := l0.get u8Ok (by decide)
      obtain ⟨A1, c1, rfl, _⟩ := l1.get hndOk (by decide)
      obtain ⟨A2, c2, rfl, _⟩ := l2.get mpOk (by decide)
      refine ⟨_, rfl, ?_⟩
      have hEx := mx.blk hEf (show ¬ E = h by omega)
      refine And.intro rfl ?_
      refine storeN_atX (g := E) (j := 3) (vs := [zi d.stack, zi d.locals, .slice A0 d.bytes.length c0, .slice A1 d.hands.length c1, .slice A2 d.maps.length c2]) rfl hEx (by simp) (ones5 _ _ _ _ _ _ _ _ _ _ _) ?_
      intro wy hby my sy
      have kx := kf.act mx qx
      exact hK4 (((A0, c0), (A1, c1), A2, c2), d) _ _ ⟨rfl, rfl, rfl, rfl, rfl, rfl, trivial⟩ ⟨sx, rx, cx', hix, ox, LRep.mod u8Ok (by decide) l0 (my.mono fun b _ e => by omega), LRep.mod hndOk (by decide) l1 (my.mono fun b _ e => by omega), LRep.mod mpOk (by decide) l2 (my.mono fun b _ e => by omega), Mod.trans (both mf' mx) my fun b hb e => by omega, hby, Ps.loc q0 kx my (fun b e => by omega) hlv⟩
    rintro ⟨⟨⟨A0, c0⟩, ⟨A1, c1⟩, A2, c2⟩, d⟩ wg frg ⟨sg, rg, cg, ig, og, l0, l1, l2, mg, hEg, kg⟩
    dsimp only at rg cg ig l0 l1 l2 hEg
    have hwlf := mf'.size
    have hmth : mthR wg (fun b => b < wl.heap.size) [zi na, strV zb, strV zc, zi d.stack, zi d.locals, .slice A0 d.bytes.length c0, .slice A1 d.hands.length c1, .slice A2 d.maps.length c2] ⟨na, zb, zc, d⟩ := ⟨_, _, _, rfl, LRep.weak u8Ok l0 (fun b _ e => by omega), LRep.weak hndOk l1 (fun b _ e => by omega), LRep.weak mpOk l2 (fun b _ e => by omega)⟩
    have hMd := kg.mb
    have mdz := mg.size
    refine Exists.intro Ax (Exists.intro ts.length (Exists.intro cx (And.intro (cellB hMd rfl) ?_)))
    refine loadN_row (vs := [zi na, strV zb, strV zc, zi d.stack, zi d.locals, .slice A0 d.bytes.length c0, .slice A1 d.hands.length c1, .slice A2 d.maps.length c2]) (rowB hEg) rfl ?_
    have n6 := New.alloc wg (.cells [zi na, strV zb, strV zc, zi d.stack, zi d.locals, .slice A0 d.bytes.length c0, .slice A1 d.hands.length c1, .slice A2 d.maps.length c2].toArray 58)
    have gd : wg.ownsRow w5.heap.size 58 8 (.slice Ax ts.length cx) ts.length (cellsOf ts) := own_mod mg gl.own (fun b hb e => by have := (gl.own.lt b hb).1; omega)
    refine append2_ ok rfl rfl rfl rfl (own_new n6 gd) rfl rfl (row_alloc wg [zi na, strV zb, strV zc, zi d.stack, zi d.locals, .slice A0 d.bytes.length c0, .slice A1 d.hands.length c1, .slice A2 d.maps.length c2] _ _) rfl (one_rmth _ _ _ _ _ _ _ _ _ _ _ _ _ _) (by decide) rfl (by show (ts.length + 1) * 128 ≤ _; omega) (by omega) (Nat.le_trans (Nat.le_trans h5l mdz) n6.size) ?_
    intro A7 c7 w7 own7 mod7 st7
    have k57 : Mod (fun b => some b = (Value.slice Ax ts.length cx).ownBlock) wg w7 := Mod.trans n6.mod mod7 fun _ _ e => e
    have g7 := gl.step mthOk (w5 := wg) (x := (⟨na, zb, zc, d⟩ : Mth)) (cs := [zi na, strV zb, strV zc, zi d.stack, zi d.locals, .slice A0 d.bytes.length c0, .slice A1 d.hands.length c1, .slice A2 d.maps.length c2]) hmth mg (fun b e => by have := low b (.inl e); omega) k57 h5l own7 (fun b e => by
      rcases st7 b e.symm with e | e
      · exact .inl e.symm
      · exact .inr (Nat.le_trans n6.size e))
    have k7 := Ps.loc q0 kg k57 (fun b e => by have := (gl.own.lt b e.symm).1; omega) hlv
    have hM7 := k7.mb
    refine And.intro ⟨_, cellB hM7 rfl⟩ (And.intro (fzB hM7 _) (force_ ?_))
    refine stK hM7 (show (4 : Nat) < 5 by decide) ?_
    intro w8 hb8 m8 s8
    have m78 := k57.size
    have lf8 := LRep.mod fldOk (by decide) (LRep.mod fldOk (by decide) (LRep.mod fldOk (by decide) lfl (mg.mono fun b _ e => .inl (by omega))) (k57.mono fun b _ e => .inr (by have := (gl.own.lt b e.symm).1; omega))) (m8.mono fun b _ e => .inl (by omega))
    refine hK3 ((A7, c7), [zi na, strV zb, strV zc, zi d.stack, zi d.locals, .slice A0 d.bytes.length c0, .slice A1 d.hands.length c1, .slice A2 d.maps.length c2], ⟨na, zb, zc, d⟩, sg) _ _ ⟨rfl, rfl, rfl, rfl, rfl, trivial⟩ ⟨by omega, ?_, oa.trans (ob.trans (oc.trans (od.trans (oe.trans (of.trans og))))), ?_, ⟨by unfold i64; dsimp only; omega, ig⟩, g7.mod mthOk m8 (fun b e => by omega), lf8, k7.put (qf.mod k7.jr m8 fun b e => by omega) m8 hb8⟩
    · exact RdS.byP (f := fun m : Mth => (m.acc, m.name, m.typ, 1, codeS, m.code)) (y := ⟨na, zb, zc, d⟩) (RdS.seq (ra.S fun _ => True) (RdS.seq (rb.S fun _ => True) (RdS.seq (rc.S fun _ => True) (RdS.seq (RdS.num (m := 1) rd) (RdS.seq (RdS.utfu (y := codeS) re) ((Rd.part rf rg hm).S fun _ => True)))))) (fun z hz => ⟨trivial, trivial, trivial, rfl, rfl, trivial⟩) (fun z e => by cases z; cases e; rfl)
    · have a1 := oa.1
      have a2 := ob.1
      have a3 := oc.1
      have a4 := od.1
      have a5 := oe.1
      have a6 := of.1
      have a7 := og.1
      show 14 + cCod d ≤ _
      dsimp only
      omega
  rintro ⟨⟨Am, cm⟩, tm⟩ w6 fr6 ⟨s6, r6, hcm, hlm, him, gm, lf6, p6⟩
  dsimp only at r6 hcm hlm him gm p6
  have lm6 := gm.rep mthOk hlm
  obtain ⟨ms, hms⟩ : ∃ ms, ms = tm.map (·.2) := ⟨_, rfl⟩
  have hlenm : tm.length = ms.length := by rw [hms, List.length_map]
  rw [← hms] at lm6 r6 hcm him
  rw [hlenm] at lm6 p6
  have hjl' := hjl
  have e6 := p6.jr.re.at_
  have nn := nw p6.md
  have hcls : clsR w6 (fun b => b < w.heap.size) [.slice Al l.length cl, strV nm, strV sp, .slice Af fs.length cf, .slice Am ms.length cm] ⟨l, nm, sp, fs, ms⟩ := ⟨_, _, _, rfl, LRep.weak entOk (lpw p6.md) (fun b _ e => .inl (by omega)), LRep.weak fldOk lf6 (fun b _ e => .inl (by omega)), LRep.weak mthOk lm6 (fun b _ e => by omega)⟩
  have hfx : fCls ⟨l, nm, sp, fs, ms⟩ := ⟨oks, hif, fun m hm => (him m hm).1⟩
  have hix : iCls ⟨l, nm, sp, fs, ms⟩ := fun m hm => (him m hm).2
  have hcx : cCls ⟨l, nm, sp, fs, ms⟩ ≤ 500000000 := by
    show csum cFld fs + csum cMth ms ≤ _
    have := r5.2.1
    have := r6.2.1
    omega
  have hmath : ∀ x, Is bs x → x = ⟨l, nm, sp, fs, ms⟩ ∧ s6.2 = false := fun x h => parse_math h (by rw [hg8]; exact hrr) r1 r2 r3 r4 r5 r6
  have hV6 := p6.vb
  have hM6 := p6.mb
  obtain ⟨x, hx⟩ : ∃ x : Cls, x = ⟨l, nm, sp, fs, ms⟩ := ⟨_, rfl⟩
  rw [← hx] at hcls hfx hix hcx hmath
  refine seq_cut (σ := (Option Addr × Nat) × List UInt8 × Int) (fun t => [(0, .slice A bs.length c), (2, .pointer (some ⟨V, 0, none⟩)), (4, .pointer (some ⟨h, 0, none⟩)), (7, .pointer (some ⟨M, 0, none⟩)), (13, .slice t.1.1 t.2.1.length t.1.2), (14, zi t.2.2)]) (fun t w' => t.2.1 = bytesOf x ∧ t.2.2 = errOf x ∧ Row w' t.1.1 (bvs t.2.1) ∧ New w6 w') ?_ ?_
  rotate_left
  · intro K hK
    refine loadN_row (vs := [.slice Al l.length cl, strV nm, strV sp, .slice Af fs.length cf, .slice Am ms.length cm]) (rowB hM6) rfl ?_
    refine call_ (rPrint_ok [.slice Al l.length cl, strV nm, strV sp, .slice Af fs.length cf, .slice Am ms.length cm] x (fun b => b < w.heap.size) w6 hcls hfx hix (fun k h0 h5 => nn.cell (hk k h0 h5)) (by have := nn.size; omega) hcx) ?_
    rintro e w7 ⟨A7, c7, rfl, row7, _, _, n7⟩
    refine ⟨_, rfl, ?_⟩
    exact hK ((A7, c7), bytesOf x, errOf x) _ _ ⟨rfl, rfl, rfl, rfl, rfl, rfl, trivial⟩ ⟨rfl, rfl, row7, n7⟩
  rintro ⟨⟨A7, c7⟩, by_, er⟩ w7 fr7 ⟨hby, her, row7, n67⟩
  dsimp only at hby her row7
  have n7 := nn.trans n67
  have hV7 := n67.blk hV6
  have hM7 := n67.blk hM6
  have hq7 := n67.blk p6.jr.re.blk
  refine seq_cut (σ := Unit) (fun t => [(0, .slice A bs.length c), (2, .pointer (some ⟨V, 0, none⟩)), (4, .pointer (some ⟨h, 0, none⟩)), (7, .pointer (some ⟨M, 0, none⟩))]) (fun t w' => w' = w7 ∧ Is bs x) ?_ ?_
  rotate_left
  · intro K hK
    refine Exists.intro s6.2 (And.intro (cellB hq7 rfl) ?_)
    refine if_ (fun hb => ?_) (fun hb => ?_)
    · replace hb : s6.2 = true := hb
      refine And.intro rfl ?_
      refine storeN_all (vs := zeroC) hV7 rfl one_zero ?_
      intro wz hbz mz sz
      refine loadN_row (vs := zeroC) (rowB hbz) rfl ?_
      exact pres_bad n7 mz (by omega) (fun y hy => by rw [(hmath y hy).2] at hb; cases hb) (by rw [if_neg (by omega)]; rfl)
    · refine if_n (fun hne => ?_) (fun heq => ?_)
      · refine And.intro rfl ?_
        refine storeN_all (vs := zeroC) hV7 rfl one_zero ?_
        intro wz hbz mz sz
        refine loadN_row (vs := zeroC) (rowB hbz) rfl ?_
        exact pres_bad n7 mz (by omega) (fun y hy => hne (by rw [her, ← (hmath y hy).1]; exact hy.1)) (by rw [if_neg (by omega)]; rfl)
      · refine call_ (Base.SameBytes_ok A7 A _ c7 _ c by_ bs w7 rfl rfl row7 (hr.new n7)) ?_
        rintro e wa ⟨rfl, hwa⟩
        obtain rfl := hwa.symm
        refine ⟨_, rfl, ?_⟩
        refine if_n (fun hne => ?_) (fun he => ?_)
        · refine And.intro rfl ?_
          refine storeN_all (vs := zeroC) hV7 rfl one_zero ?_
          intro wz hbz mz sz
          refine loadN_row (vs := zeroC) (rowB hbz) rfl ?_
          exact pres_bad n7 mz (by omega) (fun y hy => hne (by rw [hby, ← (hmath y hy).1]; exact hy.2)) (by rw [if_neg (by omega)]; rfl)
        · exact hK () _ _ ⟨rfl, rfl, rfl, rfl, trivial⟩ ⟨rfl, by rw [← her]; exact heq, by rw [← hby]; exact he⟩
  rintro _ w8 fr8 ⟨hw8, hIs⟩
  obtain rfl := hw8.symm
  refine loadN_row (vs := [.slice Al l.length cl, strV nm, strV sp, .slice Af fs.length cf, .slice Am ms.length cm]) (rowB hM7) rfl ?_
  refine And.intro rfl ?_
  refine storeN_all (vs := [.slice Al l.length cl, strV nm, strV sp, .slice Af fs.length cf, .slice Am ms.length cm]) hV7 rfl (one_cls _ _ _ _ _ _ _ _ _ _ _) ?_
  intro wz hbz mz sz
  refine loadN_row (vs := [.slice Al l.length cl, strV nm, strV sp, .slice Af fs.length cf, .slice Am ms.length cm]) (rowB hbz) rfl ?_
  have hlpz : LRep entR w7 (fun b => b < wd.heap.size ∨ M ≤ b) (.slice Al l.length cl) l := LRep.mod entOk (by decide) (lpw p6.md) (n67.mod.mono fun _ _ e => False.elim e)
  have lf7 := LRep.mod fldOk (by decide) lf6 (n67.mod.mono fun _ _ e => False.elim e)
  have lm7 := LRep.mod mthOk (by decide) lm6 (n67.mod.mono fun _ _ e => False.elim e)
  have hclsz : clsR wz (fun b => b < w.heap.size) [.slice Al l.length cl, strV nm, strV sp, .slice Af fs.length cf, .slice Am ms.length cm] x := by
    rw [hx]
    exact ⟨_, _, _, rfl, LRep.weak entOk (LRep.mod entOk (by decide) hlpz (mz.mono fun b _ e => .inl (by omega))) (fun b _ e => .inl (by omega)), LRep.weak fldOk (LRep.mod fldOk (by decide) lf7 (mz.mono fun b _ e => .inl (by omega))) (fun b _ e => .inl (by omega)), LRep.weak mthOk (LRep.mod mthOk (by decide) lm7 (mz.mono fun b _ e => by omega)) (fun b _ e => by omega)⟩
  exact ⟨n7.st mz (by omega), .inl ⟨_, x, rfl, hclsz, hfx, hcx, hIs⟩⟩

end Go.Proofs.YtdcaafldnbcdkaaGreatDoor.Class

/-! ### KTold -/
namespace Go.Proofs.YtdcaafldnbcdkaaGreatDoor.Class
open Go Go.Proofs.YtdcaafldnbcdkaaGreatDoor Go.Proofs.YtdcaafldnbcdkaaGreatDoor.Eng Go.Proofs Go.Proofs.YtdcaafldnbcdkaaGreatDoor.Word Go.Proofs.YtdcaafldnbcdkaaGreatDoor.Fmt
open Go.Proofs.YtdcaafldnbcdkaaGreatDoor.Pool (Ent at_ poolF strV entC entV EntOk Pl OkPool both own_low tagAt)
set_option maxRecDepth 10000

/-- What is read of bytes, and the fault. -/
def Told (bs : List UInt8) (x : Cls) (er : Int) : Prop := (er = 0 ∧ Is bs x ∧ fCls x ∧ cCls x ≤ 500000000) ∨ (x = cls0 ∧ (∀ y, ¬ Is bs y) ∧ er = if 32768 < bs.length then 3 else 80)
theorem Told.good {bs : List UInt8} {x y : Cls} {er : Int} (h : Told bs x er) (hy : Is bs y) : er = 0 ∧ x = y := by
  rcases h with ⟨h1, h2, _⟩ | ⟨_, h2, _⟩
  · exact ⟨h1, is_one h2 hy⟩
  · exact absurd hy (h2 y)
theorem Told.bad {bs : List UInt8} {x : Cls} {er : Int} (h : Told bs x er) (hn : ∀ y, ¬ Is bs y) : er = (if 32768 < bs.length then 3 else 80) ∧ x = cls0 := by
  rcases h with ⟨_, h2, _⟩ | ⟨h1, _, h3⟩
  · exact absurd h2 (hn x)
  · exact ⟨h3, h1⟩
theorem zero_rep (w : World) (S : Nat → Prop) : clsR w S zeroC cls0 := ⟨_, _, _, rfl, LRep.nil _ _ _ trivial, LRep.nil _ _ _ trivial, LRep.nil _ _ _ trivial⟩
theorem PRes.told {w w' : World} {bs : List UInt8} {e : Ending} (h : PRes w bs e w') : ∃ A1 a1 F1 f1 M1 m1 m er, e = .returned (.tuple #[.agg (List.toArray [.slice A1 m.pool.length a1, strV m.name, strV m.super, .slice F1 m.fields.length f1, .slice M1 m.methods.length m1]), zi er]) ∧ clsR w' (fun b => b < w.heap.size) [.slice A1 m.pool.length a1, strV m.name, strV m.super, .slice F1 m.fields.length f1, .slice M1 m.methods.length m1] m ∧ Told bs m er ∧ New w w' := by
  obtain ⟨n, ⟨cs, x, rfl, hx, h1, h2, h3⟩ | ⟨h1, rfl⟩⟩ := h
  · have hx0 := hx
    obtain ⟨_, _, _, rfl, lp, lf, lm⟩ := hx
    obtain ⟨A1, a1, rfl, _⟩ := lp.get entOk (by decide)
    obtain ⟨F1, f1, rfl, _⟩ := lf.get fldOk (by decide)
    obtain ⟨M1, m1, rfl, _⟩ := lm.get mthOk (by decide)
    exact ⟨_, _, _, _, _, _, x, 0, rfl, hx0, .inl ⟨rfl, h3, h1, h2⟩, n⟩
  · exact ⟨none, 0, none, 0, none, 0, cls0, _, rfl, zero_rep w' _, .inr ⟨rfl, h1, rfl⟩, n⟩

end Go.Proofs.YtdcaafldnbcdkaaGreatDoor.Class

/-! ### KSame -/
namespace Go.Proofs.YtdcaafldnbcdkaaGreatDoor.Class
open Go Go.Proofs.YtdcaafldnbcdkaaGreatDoor Go.Proofs.YtdcaafldnbcdkaaGreatDoor.Eng Go.Proofs Go.Proofs.YtdcaafldnbcdkaaGreatDoor.Word Go.Proofs.YtdcaafldnbcdkaaGreatDoor.Fmt
open Go.Proofs.YtdcaafldnbcdkaaGreatDoor.Pool (Ent at_ poolF strV entC entV EntOk Pl OkPool both own_low tagAt)
set_option maxRecDepth 10000
theorem SameTypes_ok (v1 v2 : Value) (xs : List Ty) (S1 S2 : Nat → Prop) (w : World) (h1 : LRep tyR w S1 v1 xs) (h2 : LRep tyR w S2 v2 xs) :
    Calls Tryz.prog 76 #[v1, v2] w fun e w' => e = .returned (.bool true) ∧ New w w' := by
  obtain ⟨A1, c1, rfl, hl, g1⟩ := h1.get tyOk (by decide)
  obtain ⟨A2, c2, rfl, _, g2⟩ := h2.get tyOk (by decide)
  refine enter ok Tryz.func76 rfl rfl rfl ?_
  refine if_n (fun h => absurd rfl h) (fun _ => ?_)
  refine den_loop (σ := Nat) (fun i => [(0, .slice A1 xs.length c1), (1, .slice A2 xs.length c2), (5, .int .i64 (i : Int))]) (fun m i wl => m + i = xs.length ∧ New w wl) xs.length 0 ⟨rfl, rfl, rfl, trivial⟩ ⟨rfl, New.refl _⟩ ?_
  rintro m i wl frl ⟨hfuel, kl⟩
  refine if_p (fun hlt => ?_) (fun hge => ?_)
  · replace hlt : (i : Int) < (xs.length : Int) := hlt
    have hi : i < xs.length := by omega
    obtain ⟨m, rfl⟩ : ∃ m', m = m' + 1 := ⟨m - 1, by omega⟩
    have inc := incN hi hl
    obtain ⟨a1, cs1, e1, x1, d1⟩ := g1 i hi
    obtain ⟨a2, cs2, e2, x2, d2⟩ := g2 i hi
    generalize xs[i] = x at x1 x2
    obtain rfl := x1
    obtain rfl := x2
    refine draw_ (w := wl) ok (.q 0 (.q 1 (.q 2 (.q 3 (.q 4 (.q 5 (.q 6 (.q 7 (.q 8 .done))))))))) [8] (New wl) (by kernel_rfl) (by kernel_rfl) (by kernel_rfl) (by kernel_rfl) (by kernel_rfl) (New.drew _) ?_
    refine And.intro (by omega) (And.intro hlt ?_)
    refine some_at e1 ?_
    refine loadNC_row (vs := [zi x.kind, strV x.name]) (fun j u hu w'' hw => by rw [Int.toNat_natCast]; exact (kl.trans hw).cell (d1 j u hu)) rfl ?_
    refine And.intro (by omega) (And.intro hlt ?_)
    refine some_at e2 ?_
    refine loadNC_row (vs := [zi x.kind, strV x.name]) (fun j u hu w'' hw => by rw [Int.toNat_natCast]; exact (kl.trans hw).cell (d2 j u hu)) rfl ?_
    refine Exists.intro (.bool (!(decide (x.kind = x.kind) && (decide ((⟨x.name.toArray⟩ : ByteArray) = ⟨x.name.toArray⟩) && true)))) (And.intro (fun w'' _ => agg_cmp ok rfl rfl rfl (by kernel_rfl) (by kernel_rfl) rfl rfl rfl (!(decide (x.kind = x.kind) && (decide ((⟨x.name.toArray⟩ : ByteArray) = ⟨x.name.toArray⟩) && true))) (.inr ⟨rfl, by exact rfl⟩) w'') ?_)
    refine if_no (by simp) ?_
    exact ⟨m, i + 1, by omega, ⟨rfl, rfl, inc, trivial⟩, by omega, kl.trans (New.drew _)⟩
  · exact ⟨rfl, kl⟩
theorem SameHandlers_ok (v1 v2 : Value) (xs : List Hnd) (S1 S2 : Nat → Prop) (w : World) (h1 : LRep hndR w S1 v1 xs) (h2 : LRep hndR w S2 v2 xs) :
    Calls Tryz.prog 31 #[v1, v2] w fun e w' => e = .returned (.bool true) ∧ New w w' := by
  obtain ⟨A1, c1, rfl, hl, g1⟩ := h1.get hndOk (by decide)
  obtain ⟨A2, c2, rfl, _, g2⟩ := h2.get hndOk (by decide)
  refine enter ok Tryz.func31 rfl rfl rfl ?_
  refine if_n (fun h => absurd rfl h) (fun _ => ?_)
  refine den_loop (σ := Nat) (fun i => [(0, .slice A1 xs.length c1), (1, .slice A2 xs.length c2), (5, .int .i64 (i : Int))]) (fun m i wl => m + i = xs.length ∧ New w wl) xs.length 0 ⟨rfl, rfl, rfl, trivial⟩ ⟨rfl, New.refl _⟩ ?_
  rintro m i wl frl ⟨hfuel, kl⟩
  refine if_p (fun hlt => ?_) (fun hge => ?_)
  · replace hlt : (i : Int) < (xs.length : Int) := hlt
    have hi : i < xs.length := by omega
    obtain ⟨m, rfl⟩ : ∃ m', m = m' + 1 := ⟨m - 1, by omega⟩
    have inc := incN hi hl
    obtain ⟨a1, cs1, e1, x1, d1⟩ := g1 i hi
    obtain ⟨a2, cs2, e2, x2, d2⟩ := g2 i hi
    generalize xs[i] = x at x1 x2
    obtain rfl := x1
    obtain rfl := x2
    refine draw_ (w := wl) ok (.q 0 (.q 1 (.q 2 (.q 3 (.q 4 (.q 5 (.q 6 (.q 7 (.q 8 .done))))))))) [8] (New wl) (by kernel_rfl) (by kernel_rfl) (by kernel_rfl) (by kernel_rfl) (by kernel_rfl) (New.drew _) ?_
    refine And.intro (by omega) (And.intro hlt ?_)
    refine some_at e1 ?_
    refine loadNC_row (vs := [zi x.from_, zi x.to, zi x.at_, zi x.cls]) (fun j u hu w'' hw => by rw [Int.toNat_natCast]; exact (kl.trans hw).cell (d1 j u hu)) rfl ?_
    refine And.intro (by omega) (And.intro hlt ?_)
    refine some_at e2 ?_
    refine loadNC_row (vs := [zi x.from_, zi x.to, zi x.at_, zi x.cls]) (fun j u hu w'' hw => by rw [Int.toNat_natCast]; exact (kl.trans hw).cell (d2 j u hu)) rfl ?_
    refine Exists.intro (.bool (!(decide (x.from_ = x.from_) && (decide (x.to = x.to) && (decide (x.at_ = x.at_) && (decide (x.cls = x.cls) && true)))))) (And.intro (fun w'' _ => agg_cmp ok rfl rfl rfl (by kernel_rfl) (by kernel_rfl) rfl rfl rfl (!(decide (x.from_ = x.from_) && (decide (x.to = x.to) && (decide (x.at_ = x.at_) && (decide (x.cls = x.cls) && true))))) (.inr ⟨rfl, by exact rfl⟩) w'') ?_)
    refine if_no (by simp) ?_
    exact ⟨m, i + 1, by omega, ⟨rfl, rfl, inc, trivial⟩, by omega, kl.trans (New.drew _)⟩
  · exact ⟨rfl, kl⟩
theorem SameFields_ok (v1 v2 : Value) (xs : List Fld) (S1 S2 : Nat → Prop) (w : World) (h1 : LRep fldR w S1 v1 xs) (h2 : LRep fldR w S2 v2 xs) :
    Calls Tryz.prog 30 #[v1, v2] w fun e w' => e = .returned (.bool true) ∧ New w w' := by
  obtain ⟨A1, c1, rfl, hl, g1⟩ := h1.get fldOk (by decide)
  obtain ⟨A2, c2, rfl, _, g2⟩ := h2.get fldOk (by decide)
  refine enter ok Tryz.func30 rfl rfl rfl ?_
  refine if_n (fun h => absurd rfl h) (fun _ => ?_)
  refine den_loop (σ := Nat) (fun i => [(0, .slice A1 xs.length c1), (1, .slice A2 xs.length c2), (5, .int .i64 (i : Int))]) (fun m i wl => m + i = xs.length ∧ New w wl) xs.length 0 ⟨rfl, rfl, rfl, trivial⟩ ⟨rfl, New.refl _⟩ ?_
  rintro m i wl frl ⟨hfuel, kl⟩
  refine if_p (fun hlt => ?_) (fun hge => ?_)
  · replace hlt : (i : Int) < (xs.length : Int) := hlt
    have hi : i < xs.length := by omega
    obtain ⟨m, rfl⟩ : ∃ m', m = m' + 1 := ⟨m - 1, by omega⟩
    have inc := incN hi hl
    obtain ⟨a1, cs1, e1, x1, d1⟩ := g1 i hi
    obtain ⟨a2, cs2, e2, x2, d2⟩ := g2 i hi
    generalize xs[i] = x at x1 x2
    obtain rfl := x1
    obtain rfl := x2
    refine draw_ (w := wl) ok (.q 0 (.q 1 (.q 2 (.q 3 (.q 4 (.q 5 (.q 6 (.q 7 (.q 8 .done))))))))) [8] (New wl) (by kernel_rfl) (by kernel_rfl) (by kernel_rfl) (by kernel_rfl) (by kernel_rfl) (New.drew _) ?_
    refine And.intro (by omega) (And.intro hlt ?_)
    refine some_at e1 ?_
    refine loadNC_row (vs := [zi x.acc, strV x.name, strV x.typ]) (fun j u hu w'' hw => by rw [Int.toNat_natCast]; exact (kl.trans hw).cell (d1 j u hu)) rfl ?_
    refine And.intro (by omega) (And.intro hlt ?_)
    refine some_at e2 ?_
    refine loadNC_row (vs := [zi x.acc, strV x.name, strV x.typ]) (fun j u hu w'' hw => by rw [Int.toNat_natCast]; exact (kl.trans hw).cell (d2 j u hu)) rfl ?_
    refine Exists.intro (.bool (!(decide (x.acc = x.acc) && (decide ((⟨x.name.toArray⟩ : ByteArray) = ⟨x.name.toArray⟩) && (decide ((⟨x.typ.toArray⟩ : ByteArray) = ⟨x.typ.toArray⟩) && true))))) (And.intro (fun w'' _ => agg_cmp ok rfl rfl rfl (by kernel_rfl) (by kernel_rfl) rfl rfl rfl (!(decide (x.acc = x.acc) && (decide ((⟨x.name.toArray⟩ : ByteArray) = ⟨x.name.toArray⟩) && (decide ((⟨x.typ.toArray⟩ : ByteArray) = ⟨x.typ.toArray⟩) && true)))) (.inr ⟨rfl, by exact rfl⟩) w'') ?_)
    refine if_no (by simp) ?_
    exact ⟨m, i + 1, by omega, ⟨rfl, rfl, inc, trivial⟩, by omega, kl.trans (New.drew _)⟩
  · exact ⟨rfl, kl⟩
theorem SameMaps_ok (v1 v2 : Value) (xs : List Mp) (S1 S2 : Nat → Prop) (w : World) (h1 : LRep mpR w S1 v1 xs) (h2 : LRep mpR w S2 v2 xs) :
    Calls Tryz.prog 32 #[v1, v2] w fun e w' => e = .returned (.bool true) ∧ New w w' := by
  obtain ⟨A1, c1, rfl, hl, g1⟩ := h1.get mpOk (by decide)
  obtain ⟨A2, c2, rfl, _, g2⟩ := h2.get mpOk (by decide)
  refine enter ok Tryz.func32 rfl rfl rfl ?_
  refine if_n (fun h => absurd rfl h) (fun _ => ?_)
  refine den_loop (σ := Nat) (fun i => [(0, .slice A1 xs.length c1), (1, .slice A2 xs.length c2), (5, .int .i64 (i : Int))]) (fun m i wl => m + i = xs.length ∧ New w wl) xs.length 0 ⟨rfl, rfl, rfl, trivial⟩ ⟨rfl, New.refl _⟩ ?_
  rintro m i wl frl ⟨hfuel, kl⟩
  refine if_p (fun hlt => ?_) (fun hge => ?_)
  · replace hlt : (i : Int) < (xs.length : Int) := hlt
    have hi : i < xs.length := by omega
    obtain ⟨m, rfl⟩ : ∃ m', m = m' + 1 := ⟨m - 1, by omega⟩
    have inc := incN hi hl
    obtain ⟨a1, cs1, e1, x1, d1⟩ := g1 i hi
    obtain ⟨a2, cs2, e2, x2, d2⟩ := g2 i hi
    generalize xs[i] = x at x1 x2
    obtain ⟨_, _, rfl, l1, k1⟩ := x1
    obtain ⟨_, _, rfl, l2, k2⟩ := x2
    obtain ⟨B1, b1, rfl, _⟩ := l1.get tyOk (by decide)
    obtain ⟨B2, b2, rfl, _⟩ := l2.get tyOk (by decide)
    obtain ⟨D1, q1, rfl, _⟩ := k1.get tyOk (by decide)
    obtain ⟨D2, q2, rfl, _⟩ := k2.get tyOk (by decide)
    refine draw_ (w := wl) ok (.q 0 (.q 1 (.q 2 (.q 3 (.q 4 (.q 5 (.q 6 (.q 7 (.q 8 (.q 9 (.q 10 (.q 11 (.q 12 (.q 13 (.q 14 (.q 15 (.q 16 (.q 17 (.q 18 (.q 19 (.q 20 (.q 21 (.e 22 (.q 23 (.q 24 (.q 25 (.q 26 (.q 27 (.q 28 (.q 29 (.q 30 (.q 31 (.q 32 (.q 33 (.q 34 (.q 35 (.e 36 (.q 37 (.q 38 .done))))))))))))))))))))))))))))))))))))))) [38] (New wl) (by kernel_rfl) (by kernel_rfl) (by kernel_rfl) (by kernel_rfl) (by kernel_rfl) (New.drew _) ?_
    refine And.intro (by omega) (And.intro hlt ?_)
    refine some_at e1 ?_
    refine Exists.intro x.at_ (And.intro (fun w'' hw => by rw [Int.toNat_natCast]; exact (kl.trans hw).cell (d1 0 _ rfl)) ?_)
    refine And.intro (by omega) (And.intro hlt ?_)
    refine some_at e2 ?_
    refine Exists.intro x.at_ (And.intro (fun w'' hw => by rw [Int.toNat_natCast]; exact (kl.trans hw).cell (d2 0 _ rfl)) ?_)
    refine if_n (fun h => absurd rfl h) (fun _ => ?_)
    have kd := kl.trans (New.drew wl)
    refine And.intro (by omega) (And.intro hlt ?_)
    refine some_at e1 ?_
    refine Exists.intro B1 (Exists.intro x.locals.length (Exists.intro b1 (And.intro (fun w'' hw => by rw [Int.toNat_natCast]; exact (kl.trans hw).cell (d1 1 _ rfl)) ?_)))
    refine And.intro (by omega) (And.intro hlt ?_)
    refine some_at e2 ?_
    refine Exists.intro B2 (Exists.intro x.locals.length (Exists.intro b2 (And.intro (fun w'' hw => by rw [Int.toNat_natCast]; exact (kl.trans hw).cell (d2 1 _ rfl)) ?_)))
    refine call_ (SameTypes_ok _ _ x.locals S1 S2 wl.drew (LRep.mod tyOk (by decide) l1 (kd.mod.mono fun _ _ e => False.elim e)) (LRep.mod tyOk (by decide) l2 (kd.mod.mono fun _ _ e => False.elim e))) ?_
    rintro e w3 ⟨rfl, n3⟩
    refine ⟨_, rfl, ?_⟩
    refine Exists.intro (New wl) (And.intro (fun _ h => h) (And.intro ((New.drew wl).trans n3) ?_))
    have k3 := kd.trans n3
    refine And.intro (by omega) (And.intro hlt ?_)
    refine some_at e1 ?_
    refine Exists.intro D1 (Exists.intro x.stack.length (Exists.intro q1 (And.intro (fun w'' hw => by rw [Int.toNat_natCast]; exact (kl.trans hw).cell (d1 2 _ rfl)) ?_)))
    refine And.intro (by omega) (And.intro hlt ?_)
    refine some_at e2 ?_
    refine Exists.intro D2 (Exists.intro x.stack.length (Exists.intro q2 (And.intro (fun w'' hw => by rw [Int.toNat_natCast]; exact (kl.trans hw).cell (d2 2 _ rfl)) ?_)))
    refine call_ (SameTypes_ok _ _ x.stack S1 S2 w3 (LRep.mod tyOk (by decide) k1 (k3.mod.mono fun _ _ e => False.elim e)) (LRep.mod tyOk (by decide) k2 (k3.mod.mono fun _ _ e => False.elim e))) ?_
    rintro e w4 ⟨rfl, n4⟩
    refine ⟨_, rfl, ?_⟩
    refine Exists.intro (New wl) (And.intro (fun _ h => h) (And.intro ((New.drew wl).trans (n3.trans n4)) ?_))
    exact ⟨m, i + 1, by omega, ⟨rfl, rfl, inc, trivial⟩, by omega, k3.trans n4⟩
  · exact ⟨rfl, kl⟩
theorem cellB3 {w : World} {b : Nat} {arr : Array Value} {t : TypeId} {i j : Nat} {u : Value} (hb : w.heap[b]? = some (.cells arr t (0, 0))) (hu : arr[i + j]? = some u) : w.cell? (((⟨b, 0, none⟩ : Addr).add i).add j) = some u := by
  rw [add_add_]
  exact cellB hb hu
theorem one_mth (n1 : Int) (z1 z2 : List UInt8) (a b : Int) (A1 A2 A3 : Option Addr) (n1' c1 n2 c2 n3 c3 : Nat) : ∀ u ∈ [zi n1, strV z1, strV z2, zi a, zi b, Value.slice A1 n1' c1, Value.slice A2 n2 c2, Value.slice A3 n3 c3], u.oneCell' = true := fun u hu => by
  simp only [List.mem_cons, List.not_mem_nil, or_false] at hu
  rcases hu with rfl | rfl | rfl | rfl | rfl | rfl | rfl | rfl <;> rfl
/-- Two methods' blocks, compared. -/
theorem SameClass_ok (cs1 cs2 : List Value) (m : Cls) (S1 S2 : Nat → Prop) (w : World) (h1 : clsR w S1 cs1 m) (h2 : clsR w S2 cs2 m) (hp : ∀ x ∈ m.pool, EntOk x) :
    Calls Tryz.prog 7 #[.agg cs1.toArray, .agg cs2.toArray] w fun e w' => e = .returned (.bool true) ∧ New w w' := by
  obtain ⟨_, _, _, rfl, lp1, lf1, lm1⟩ := h1
  obtain ⟨A1, a1, rfl, pl1, _⟩ := pool_row lp1 hp
  obtain ⟨F1, f1, rfl, _⟩ := lf1.get fldOk (by decide)
  have lm10 := lm1
  obtain ⟨M1, m1, rfl, hml, g1⟩ := lm1.get mthOk (by decide)
  obtain ⟨_, _, _, rfl, lp2, lf2, lm2⟩ := h2
  obtain ⟨A2, a2, rfl, pl2, _⟩ := pool_row lp2 hp
  obtain ⟨F2, f2, rfl, _⟩ := lf2.get fldOk (by decide)
  have lm20 := lm2
  obtain ⟨M2, m2, rfl, hml, g2⟩ := lm2.get mthOk (by decide)
  refine enter ok Tryz.func7 rfl rfl rfl ?_
  refine seq_cut (σ := Nat × Nat) (fun t => [(2, .pointer (some ⟨t.1, 0, none⟩)), (3, .pointer (some ⟨t.2, 0, none⟩))]) (fun t w' => New w w' ∧ w'.heap[t.1]? = some (.cells #[.slice A1 m.pool.length a1, strV m.name, strV m.super, .slice F1 m.fields.length f1, .slice M1 m.methods.length m1] 28 (0, 0)) ∧ w'.heap[t.2]? = some (.cells #[.slice A2 m.pool.length a2, strV m.name, strV m.super, .slice F2 m.fields.length f2, .slice M2 m.methods.length m2] 28 (0, 0))) ?_ ?_
  rotate_left
  · intro K hK
    have n1 := New.alloc w (.cells #[.slice A1 m.pool.length a1, strV m.name, strV m.super, .slice F1 m.fields.length f1, .slice M1 m.methods.length m1] 28)
    have n2 := New.alloc (w.alloc (.cells #[.slice A1 m.pool.length a1, strV m.name, strV m.super, .slice F1 m.fields.length f1, .slice M1 m.methods.length m1] 28)) (.cells #[.slice A2 m.pool.length a2, strV m.name, strV m.super, .slice F2 m.fields.length f2, .slice M2 m.methods.length m2] 28)
    exact hK (w.heap.size, (w.alloc (.cells #[.slice A1 m.pool.length a1, strV m.name, strV m.super, .slice F1 m.fields.length f1, .slice M1 m.methods.length m1] 28)).heap.size) _ _ ⟨rfl, rfl, trivial⟩ ⟨n1.trans n2, n2.blk (heap_alloc_new w (.cells #[.slice A1 m.pool.length a1, strV m.name, strV m.super, .slice F1 m.fields.length f1, .slice M1 m.methods.length m1] 28)), heap_alloc_new (w.alloc (.cells #[.slice A1 m.pool.length a1, strV m.name, strV m.super, .slice F1 m.fields.length f1, .slice M1 m.methods.length m1] 28)) (.cells #[.slice A2 m.pool.length a2, strV m.name, strV m.super, .slice F2 m.fields.length f2, .slice M2 m.methods.length m2] 28)⟩
  rintro ⟨b1, b2⟩ wa fra ⟨na, ha1, ha2⟩
  dsimp only at ha1 ha2
  refine seq_cut (σ := Unit) (fun _ => [(2, .pointer (some ⟨b1, 0, none⟩)), (3, .pointer (some ⟨b2, 0, none⟩))]) (fun _ w' => New wa w') ?_ ?_
  rotate_left
  · intro K hK
    refine Exists.intro (⟨m.name.toArray⟩ : ByteArray) (And.intro (cellB ha1 rfl) ?_)
    refine Exists.intro (⟨m.name.toArray⟩ : ByteArray) (And.intro (cellB ha2 rfl) ?_)
    refine if_n (fun h => absurd rfl h) (fun _ => ?_)
    refine Exists.intro (⟨m.super.toArray⟩ : ByteArray) (And.intro (cellB ha1 rfl) ?_)
    refine Exists.intro (⟨m.super.toArray⟩ : ByteArray) (And.intro (cellB ha2 rfl) ?_)
    refine if_n (fun h => absurd rfl h) (fun _ => ?_)
    refine Exists.intro A1 (Exists.intro m.pool.length (Exists.intro a1 (And.intro (cellB ha1 rfl) ?_)))
    refine Exists.intro A2 (Exists.intro m.pool.length (Exists.intro a2 (And.intro (cellB ha2 rfl) ?_)))
    refine call_ (Pool.SameEntries_ok A1 A2 _ a1 _ a2 m.pool wa (pl1.new na) (pl2.new na)) ?_
    rintro e wb ⟨rfl, nb⟩
    refine ⟨_, rfl, ?_⟩
    refine Exists.intro F1 (Exists.intro m.fields.length (Exists.intro f1 (And.intro (cellB (nb.blk ha1) rfl) ?_)))
    refine Exists.intro F2 (Exists.intro m.fields.length (Exists.intro f2 (And.intro (cellB (nb.blk ha2) rfl) ?_)))
    have nab := na.trans nb
    refine call_ (SameFields_ok _ _ m.fields S1 S2 wb (LRep.mod fldOk (by decide) lf1 (nab.mod.mono fun _ _ e => False.elim e)) (LRep.mod fldOk (by decide) lf2 (nab.mod.mono fun _ _ e => False.elim e))) ?_
    rintro e wc ⟨rfl, nc⟩
    refine ⟨_, rfl, ?_⟩
    have nbc := nb.trans nc
    refine Exists.intro M1 (Exists.intro m.methods.length (Exists.intro m1 (And.intro (cellB (nbc.blk ha1) rfl) ?_)))
    refine Exists.intro M2 (Exists.intro m.methods.length (Exists.intro m2 (And.intro (cellB (nbc.blk ha2) rfl) ?_)))
    refine if_n (fun h => absurd rfl h) (fun _ => ?_)
    exact hK () _ _ ⟨rfl, rfl, trivial⟩ nbc
  rintro _ wb frb nb
  have nab := na.trans nb
  refine den_loop (σ := Nat) (fun i => [(2, .pointer (some ⟨b1, 0, none⟩)), (3, .pointer (some ⟨b2, 0, none⟩)), (5, .int .i64 (i : Int))]) (fun q i wl => q + i = m.methods.length ∧ New wa wl) m.methods.length 0 ⟨rfl, rfl, rfl, trivial⟩ ⟨rfl, nb⟩ ?_
  rintro q i wl frl ⟨hfuel, kl⟩
  have hl1 := kl.blk ha1
  have hl2 := kl.blk ha2
  have nl := na.trans kl
  refine Exists.intro M1 (Exists.intro m.methods.length (Exists.intro m1 (And.intro (cellB hl1 rfl) ?_)))
  refine if_p (fun hlt => ?_) (fun hge => ?_)
  rotate_left
  · exact ⟨rfl, nl⟩
  replace hlt : (i : Int) < (m.methods.length : Int) := hlt
  have hi : i < m.methods.length := by omega
  obtain ⟨q, rfl⟩ : ∃ q', q = q' + 1 := ⟨q - 1, by omega⟩
  have inc := incN hi hml
  obtain ⟨_, _, he1, _, g1⟩ := (LRep.mod mthOk (by decide) lm10 (nl.mod.mono fun _ _ e => False.elim e)).get mthOk (by decide)
  obtain ⟨_, _, he2, _, g2⟩ := (LRep.mod mthOk (by decide) lm20 (nl.mod.mono fun _ _ e => False.elim e)).get mthOk (by decide)
  cases he1
  cases he2
  obtain ⟨p1, cs1, e1, x1, y1⟩ := g1 i hi
  obtain ⟨p2, cs2, e2, x2, y2⟩ := g2 i hi
  generalize m.methods[i] = x at x1 x2
  obtain ⟨_, _, _, rfl, u1, v1, z1⟩ := x1
  obtain ⟨_, _, _, rfl, u2, v2, z2⟩ := x2
  obtain ⟨B1, c1, rfl, row1, _⟩ := bytes_row u1
  obtain ⟨B2, c2, rfl, row2, _⟩ := bytes_row u2
  obtain ⟨H1, h1, rfl, _⟩ := v1.get hndOk (by decide)
  obtain ⟨H2, h2, rfl, _⟩ := v2.get hndOk (by decide)
  obtain ⟨D1, d1, rfl, _⟩ := z1.get mpOk (by decide)
  obtain ⟨D2, d2, rfl, _⟩ := z2.get mpOk (by decide)
  refine seq_cut (σ := Unit) (fun _ => [(2, .pointer (some ⟨b1, 0, none⟩)), (3, .pointer (some ⟨b2, 0, none⟩)), (5, .int .i64 (i : Int))]) (fun _ w' => New wl w') ?_ ?_
  · rintro _ wz frz nz
    exact ⟨q, i + 1, by omega, ⟨rfl, rfl, inc, trivial⟩, by omega, kl.trans nz⟩
  intro K hK0
  refine block_ ?_
  refine seq_cut (σ := Nat × Nat) (fun t => [(2, .pointer (some ⟨b1, 0, none⟩)), (3, .pointer (some ⟨b2, 0, none⟩)), (5, .int .i64 (i : Int)), (6, .pointer (some ⟨t.1, 0, none⟩)), (7, .pointer (some ⟨t.2, 0, none⟩))]) (fun t w' => New wl w' ∧ w'.heap[t.1]? = some (.cells #[zi x.acc, strV x.name, strV x.typ, zi x.code.stack, zi x.code.locals, .slice B1 x.code.bytes.length c1, .slice H1 x.code.hands.length h1, .slice D1 x.code.maps.length d1] 58 (0, 0)) ∧ w'.heap[t.2]? = some (.cells #[zi x.acc, strV x.name, strV x.typ, zi x.code.stack, zi x.code.locals, .slice B2 x.code.bytes.length c2, .slice H2 x.code.hands.length h2, .slice D2 x.code.maps.length d2] 58 (0, 0))) ?_ ?_
  rotate_left
  · intro K hK
    refine draw_ (w := wl) ok (.q 0 (.q 1 (.q 2 (.q 3 (.q 4 (.q 5 (.q 6 (.q 7 (.q 8 (.q 9 (.br (.e 10 (.e 11 (.e 12 (.e 13 .done)))) (.e 11 (.e 10 (.e 12 (.e 13 .done))))))))))))))) [13] (New wl) (by kernel_rfl) (by kernel_rfl) (by kernel_rfl) (by kernel_rfl) (by kernel_rfl) (New.drew _) ?_
    refine Exists.intro M1 (Exists.intro m.methods.length (Exists.intro m1 (And.intro (fun w'' hw => cellB (hw.blk hl1) rfl) ?_)))
    refine And.intro (by omega) (And.intro hlt ?_)
    refine some_at e1 ?_
    refine loadNC_row (vs := [zi x.acc, strV x.name, strV x.typ, zi x.code.stack, zi x.code.locals, .slice B1 x.code.bytes.length c1, .slice H1 x.code.hands.length h1, .slice D1 x.code.maps.length d1]) (fun j u hu w'' hw => by rw [Int.toNat_natCast]; exact hw.cell (y1 j u hu)) rfl ?_
    refine Exists.intro M2 (Exists.intro m.methods.length (Exists.intro m2 (And.intro (fun w'' hw => cellB (hw.blk hl2) rfl) ?_)))
    refine And.intro (by omega) (And.intro hlt ?_)
    refine some_at e2 ?_
    refine loadNC_row (vs := [zi x.acc, strV x.name, strV x.typ, zi x.code.stack, zi x.code.locals, .slice B2 x.code.bytes.length c2, .slice H2 x.code.hands.length h2, .slice D2 x.code.maps.length d2]) (fun j u hu w'' hw => by rw [Int.toNat_natCast]; exact hw.cell (y2 j u hu)) rfl ?_
    refine And.intro ?_ ?_
    · have na := New.alloc wl.drew (.cells #[zi 0, .string ⟨#[]⟩, .string ⟨#[]⟩, zi 0, zi 0, .slice none 0 0, .slice none 0 0, .slice none 0 0] 58)
      have ha := heap_alloc_new wl.drew (.cells #[zi 0, .string ⟨#[]⟩, .string ⟨#[]⟩, zi 0, zi 0, .slice none 0 0, .slice none 0 0, .slice none 0 0] 58)
      have sa : (wl.drew.alloc (.cells #[zi 0, .string ⟨#[]⟩, .string ⟨#[]⟩, zi 0, zi 0, .slice none 0 0, .slice none 0 0, .slice none 0 0] 58)).heap.size = wl.drew.heap.size + 1 := by simp
      have zd : wl.drew.heap.size = wl.heap.size := rfl
      refine Exists.intro (New wl) (And.intro (fun _ h => h) (And.intro ((New.drew wl).trans na) ?_))
      have hX0 : wl.heap.size ≤ wl.drew.heap.size := by omega
      have hY0 : wl.heap.size ≤ (wl.drew.alloc (.cells #[zi 0, .string ⟨#[]⟩, .string ⟨#[]⟩, zi 0, zi 0, .slice none 0 0, .slice none 0 0, .slice none 0 0] 58)).heap.size := by omega
      have hXY : ¬ wl.drew.heap.size = (wl.drew.alloc (.cells #[zi 0, .string ⟨#[]⟩, .string ⟨#[]⟩, zi 0, zi 0, .slice none 0 0, .slice none 0 0, .slice none 0 0] 58)).heap.size := by omega
      have nb := New.alloc (wl.drew.alloc (.cells #[zi 0, .string ⟨#[]⟩, .string ⟨#[]⟩, zi 0, zi 0, .slice none 0 0, .slice none 0 0, .slice none 0 0] 58)) (.cells #[zi 0, .string ⟨#[]⟩, .string ⟨#[]⟩, zi 0, zi 0, .slice none 0 0, .slice none 0 0, .slice none 0 0] 58)
      have hb := heap_alloc_new (wl.drew.alloc (.cells #[zi 0, .string ⟨#[]⟩, .string ⟨#[]⟩, zi 0, zi 0, .slice none 0 0, .slice none 0 0, .slice none 0 0] 58)) (.cells #[zi 0, .string ⟨#[]⟩, .string ⟨#[]⟩, zi 0, zi 0, .slice none 0 0, .slice none 0 0, .slice none 0 0] 58)
      refine Exists.intro (New wl) (And.intro (fun _ h => h) (And.intro (((New.drew wl).trans na).trans nb) ?_))
      refine And.intro rfl ?_
      refine storeN_all (vs := [zi x.acc, strV x.name, strV x.typ, zi x.code.stack, zi x.code.locals, .slice B1 x.code.bytes.length c1, .slice H1 x.code.hands.length h1, .slice D1 x.code.maps.length d1]) (nb.blk ha) rfl (one_mth _ _ _ _ _ _ _ _ _ _ _ _ _ _) ?_
      intro wc hXc mc sc
      refine Exists.intro (New wl) (And.intro (fun _ h => h) (And.intro ((((New.drew wl).trans na).trans nb).st mc hX0) ?_))
      refine And.intro rfl ?_
      refine storeN_all (vs := [zi x.acc, strV x.name, strV x.typ, zi x.code.stack, zi x.code.locals, .slice B2 x.code.bytes.length c2, .slice H2 x.code.hands.length h2, .slice D2 x.code.maps.length d2]) (mc.blk hb (fun e => hXY e.symm)) rfl (one_mth _ _ _ _ _ _ _ _ _ _ _ _ _ _) ?_
      intro wd hYd md sd
      exact hK (wl.drew.heap.size, (wl.drew.alloc (.cells #[zi 0, .string ⟨#[]⟩, .string ⟨#[]⟩, zi 0, zi 0, .slice none 0 0, .slice none 0 0, .slice none 0 0] 58)).heap.size) _ _ ⟨rfl, rfl, rfl, rfl, rfl, trivial⟩ ⟨((((New.drew wl).trans na).trans nb).st mc hX0).st md hY0, md.blk hXc hXY, hYd⟩
    · have na := New.alloc wl.drew (.cells #[zi 0, .string ⟨#[]⟩, .string ⟨#[]⟩, zi 0, zi 0, .slice none 0 0, .slice none 0 0, .slice none 0 0] 58)
      have ha := heap_alloc_new wl.drew (.cells #[zi 0, .string ⟨#[]⟩, .string ⟨#[]⟩, zi 0, zi 0, .slice none 0 0, .slice none 0 0, .slice none 0 0] 58)
      have sa : (wl.drew.alloc (.cells #[zi 0, .string ⟨#[]⟩, .string ⟨#[]⟩, zi 0, zi 0, .slice none 0 0, .slice none 0 0, .slice none 0 0] 58)).heap.size = wl.drew.heap.size + 1 := by simp
      have zd : wl.drew.heap.size = wl.heap.size := rfl
      refine Exists.intro (New wl) (And.intro (fun _ h => h) (And.intro ((New.drew wl).trans na) ?_))
      have hX0 : wl.heap.size ≤ (wl.drew.alloc (.cells #[zi 0, .string ⟨#[]⟩, .string ⟨#[]⟩, zi 0, zi 0, .slice none 0 0, .slice none 0 0, .slice none 0 0] 58)).heap.size := by omega
      have hY0 : wl.heap.size ≤ wl.drew.heap.size := by omega
      have hXY : ¬ (wl.drew.alloc (.cells #[zi 0, .string ⟨#[]⟩, .string ⟨#[]⟩, zi 0, zi 0, .slice none 0 0, .slice none 0 0, .slice none 0 0] 58)).heap.size = wl.drew.heap.size := by omega
      have nb := New.alloc (wl.drew.alloc (.cells #[zi 0, .string ⟨#[]⟩, .string ⟨#[]⟩, zi 0, zi 0, .slice none 0 0, .slice none 0 0, .slice none 0 0] 58)) (.cells #[zi 0, .string ⟨#[]⟩, .string ⟨#[]⟩, zi 0, zi 0, .slice none 0 0, .slice none 0 0, .slice none 0 0] 58)
      have hb := heap_alloc_new (wl.drew.alloc (.cells #[zi 0, .string ⟨#[]⟩, .string ⟨#[]⟩, zi 0, zi 0, .slice none 0 0, .slice none 0 0, .slice none 0 0] 58)) (.cells #[zi 0, .string ⟨#[]⟩, .string ⟨#[]⟩, zi 0, zi 0, .slice none 0 0, .slice none 0 0, .slice none 0 0] 58)
      refine Exists.intro (New wl) (And.intro (fun _ h => h) (And.intro (((New.drew wl).trans na).trans nb) ?_))
      refine And.intro rfl ?_
      refine storeN_all (vs := [zi x.acc, strV x.name, strV x.typ, zi x.code.stack, zi x.code.locals, .slice B1 x.code.bytes.length c1, .slice H1 x.code.hands.length h1, .slice D1 x.code.maps.length d1]) hb rfl (one_mth _ _ _ _ _ _ _ _ _ _ _ _ _ _) ?_
      intro wc hXc mc sc
      refine Exists.intro (New wl) (And.intro (fun _ h => h) (And.intro ((((New.drew wl).trans na).trans nb).st mc hX0) ?_))
      refine And.intro rfl ?_
      refine storeN_all (vs := [zi x.acc, strV x.name, strV x.typ, zi x.code.stack, zi x.code.locals, .slice B2 x.code.bytes.length c2, .slice H2 x.code.hands.length h2, .slice D2 x.code.maps.length d2]) (mc.blk (nb.blk ha) (fun e => hXY e.symm)) rfl (one_mth _ _ _ _ _ _ _ _ _ _ _ _ _ _) ?_
      intro wd hYd md sd
      exact hK ((wl.drew.alloc (.cells #[zi 0, .string ⟨#[]⟩, .string ⟨#[]⟩, zi 0, zi 0, .slice none 0 0, .slice none 0 0, .slice none 0 0] 58)).heap.size, wl.drew.heap.size) _ _ ⟨rfl, rfl, rfl, rfl, rfl, trivial⟩ ⟨((((New.drew wl).trans na).trans nb).st mc hX0).st md hY0, md.blk hXc hXY, hYd⟩
  rintro ⟨X, Y⟩ wx frx ⟨nx, hX, hY⟩
  dsimp only at hX hY
  refine Exists.intro x.acc (And.intro (cellB hX rfl) ?_)
  refine Exists.intro x.acc (And.intro (cellB hY rfl) ?_)
  refine if_n (fun h => absurd rfl h) (fun _ => ?_)
  refine Exists.intro (⟨x.name.toArray⟩ : ByteArray) (And.intro (cellB hX rfl) ?_)
  refine Exists.intro (⟨x.name.toArray⟩ : ByteArray) (And.intro (cellB hY rfl) ?_)
  refine if_n (fun h => absurd rfl h) (fun _ => ?_)
  refine Exists.intro (⟨x.typ.toArray⟩ : ByteArray) (And.intro (cellB hX rfl) ?_)
  refine Exists.intro (⟨x.typ.toArray⟩ : ByteArray) (And.intro (cellB hY rfl) ?_)
  refine if_n (fun h => absurd rfl h) (fun _ => ?_)
  refine Exists.intro x.code.stack (And.intro (cellB3 hX rfl) ?_)
  refine Exists.intro x.code.stack (And.intro (cellB3 hY rfl) ?_)
  refine if_n (fun h => absurd rfl h) (fun _ => ?_)
  refine Exists.intro x.code.locals (And.intro (cellB3 hX rfl) ?_)
  refine Exists.intro x.code.locals (And.intro (cellB3 hY rfl) ?_)
  refine if_n (fun h => absurd rfl h) (fun _ => ?_)
  refine Exists.intro B1 (Exists.intro x.code.bytes.length (Exists.intro c1 (And.intro (cellB3 ((New.refl wx).blk hX) rfl) ?_)))
  refine Exists.intro B2 (Exists.intro x.code.bytes.length (Exists.intro c2 (And.intro (cellB3 ((New.refl wx).blk hY) rfl) ?_)))
  refine call_ (Base.SameBytes_ok B1 B2 _ c1 _ c2 x.code.bytes x.code.bytes wx rfl rfl (row1.new nx) (row2.new nx)) ?_
  rintro e wy ⟨rfl, hwy⟩
  obtain rfl := hwy.symm
  refine ⟨_, rfl, ?_⟩
  refine if_n (fun h => absurd rfl h) (fun _ => ?_)
  refine Exists.intro H1 (Exists.intro x.code.hands.length (Exists.intro h1 (And.intro (cellB3 ((New.refl wx).blk hX) rfl) ?_)))
  refine Exists.intro H2 (Exists.intro x.code.hands.length (Exists.intro h2 (And.intro (cellB3 ((New.refl wx).blk hY) rfl) ?_)))
  refine call_ (SameHandlers_ok _ _ x.code.hands S1 S2 wx (LRep.mod hndOk (by decide) v1 (nx.mod.mono fun _ _ e => False.elim e)) (LRep.mod hndOk (by decide) v2 (nx.mod.mono fun _ _ e => False.elim e))) ?_
  rintro e wy ⟨rfl, ny⟩
  refine ⟨_, rfl, ?_⟩
  have nxy := nx.trans ny
  refine Exists.intro D1 (Exists.intro x.code.maps.length (Exists.intro d1 (And.intro (cellB3 (ny.blk hX) rfl) ?_)))
  refine Exists.intro D2 (Exists.intro x.code.maps.length (Exists.intro d2 (And.intro (cellB3 (ny.blk hY) rfl) ?_)))
  refine call_ (SameMaps_ok _ _ x.code.maps S1 S2 wy (LRep.mod mpOk (by decide) z1 (nxy.mod.mono fun _ _ e => False.elim e)) (LRep.mod mpOk (by decide) z2 (nxy.mod.mono fun _ _ e => False.elim e))) ?_
  rintro e wz ⟨rfl, nz⟩
  refine ⟨_, rfl, ?_⟩
  exact hK0 () _ _ ⟨rfl, rfl, rfl, trivial⟩ (nxy.trans nz)

end Go.Proofs.YtdcaafldnbcdkaaGreatDoor.Class

/-! ### KWorks -/
namespace Go.Proofs.YtdcaafldnbcdkaaGreatDoor.Class
open Go Go.Proofs.YtdcaafldnbcdkaaGreatDoor Go.Proofs.YtdcaafldnbcdkaaGreatDoor.Eng Go.Proofs Go.Proofs.YtdcaafldnbcdkaaGreatDoor.Word Go.Proofs.YtdcaafldnbcdkaaGreatDoor.Fmt
open Go.Proofs.YtdcaafldnbcdkaaGreatDoor.Pool (Ent at_ poolF strV entC entV EntOk Pl OkPool both own_low tagAt)
set_option maxRecDepth 10000

def smallC : Cls := ⟨[⟨0, [], 0, 0, 0⟩, ⟨1, [97], 0, 0, 0⟩, ⟨7, [], 0, 1, 0⟩], [97], [], [], []⟩
def smallB : List UInt8 := [202, 254, 186, 190, 0, 0, 0, 52, 0, 3, 1, 0, 1, 97, 7, 0, 1, 0, 33, 0, 2, 0, 0, 0, 0, 0, 0, 0, 0, 0, 0]
theorem small_ok (w : World) : Calls Tryz.prog 33 #[] w fun e w' => ∃ cs, e = .returned (.agg (List.toArray cs)) ∧ clsR w' (fun b => b < w.heap.size) cs smallC ∧ New w w' := by
  refine enter ok Tryz.func33 rfl rfl rfl ?_
  refine seq_cut (σ := Unit) (fun _ => [(0, .pointer (some ⟨w.heap.size, 0, none⟩))]) (fun _ w' => New w w' ∧ w'.heap.size = w.heap.size + 1 ∧ w'.heap[w.heap.size]? = some (.cells #[.slice none 0 0, .string ⟨#[]⟩, .string ⟨#[]⟩, .slice none 0 0, .slice none 0 0] 28 (0, 0))) ?_ ?_
  rotate_left
  · intro K hK
    exact hK () _ _ ⟨rfl, trivial⟩ ⟨New.alloc w _, by simp, heap_alloc_new w (.cells #[.slice none 0 0, .string ⟨#[]⟩, .string ⟨#[]⟩, .slice none 0 0, .slice none 0 0] 28)⟩
  rintro _ w1 fr1 ⟨n1, s1, hb1⟩
  have n2 := New.alloc w1 (.cells #[zi 0, strV [], zi 0, zi 0, zi 0, zi 1, strV [97], zi 0, zi 0, zi 0, zi 7, strV [], zi 0, zi 1, zi 0] 85)
  have row2 := row_alloc w1 [zi 0, strV [], zi 0, zi 0, zi 0, zi 1, strV [97], zi 0, zi 0, zi 0, zi 7, strV [], zi 0, zi 1, zi 0] 85 (0, 0)
  have hb2 := n2.blk hb1
  refine And.intro rfl ?_
  rw [s1]
  refine storeN_all (vs := [.slice (some ⟨w.heap.size + 1, 0, none⟩) 3 3, strV [97], strV [], .slice none 0 0, .slice none 0 0]) hb2 rfl (fun u hu => by
    simp only [List.mem_cons, List.not_mem_nil, or_false] at hu
    rcases hu with rfl | rfl | rfl | rfl | rfl <;> rfl) ?_
  intro w3 hb3 m3 s3
  refine loadN_row (vs := [.slice (some ⟨w.heap.size + 1, 0, none⟩) 3 3, strV [97], strV [], .slice none 0 0, .slice none 0 0]) (rowB hb3) rfl ?_
  have n3 : New w w3 := (n1.trans n2).st m3 (Nat.le_refl _)
  have hsz : (w1.alloc (.cells #[zi 0, strV [], zi 0, zi 0, zi 0, zi 1, strV [97], zi 0, zi 0, zi 0, zi 7, strV [], zi 0, zi 1, zi 0] 85)).heap.size = w.heap.size + 2 := by simp; omega
  have hl : (w1.alloc (.cells #[zi 0, strV [], zi 0, zi 0, zi 0, zi 1, strV [97], zi 0, zi 0, zi 0, zi 7, strV [], zi 0, zi 1, zi 0] 85)).heap.size ≤ w3.heap.size := m3.size
  refine ⟨_, rfl, ⟨_, _, _, rfl, ⟨some ⟨w.heap.size + 1, 0, none⟩, 3, smallC.pool.map fun x => (entC x, x), rfl, rfl, Nat.le_refl _, by omega, by decide, ?_, ?_, ?_⟩, LRep.nil _ _ _ trivial, LRep.nil _ _ _ trivial⟩, n3⟩
  · rw [s1] at row2
    exact row2.mod m3 fun a ha => by cases ha; show ¬ w.heap.size + 1 = w.heap.size; omega
  · intro a ha _
    cases ha
    exact ⟨by show w.heap.size + 1 < _; omega, by show ¬ w.heap.size + 1 < w.heap.size; omega⟩
  · intro t ht
    obtain ⟨x, _, rfl⟩ := List.mem_map.1 ht
    rfl
theorem small_enc : fileT.enc smallC = smallB := by rfl
theorem small_idx : idx (clsP smallC.pool) smallC.pool [97] = 2 := by rfl
theorem small_file : fileT.ok smallC := by
  have h0 : ∀ n : Int, 0 ≤ n → n < 65536 → n2.ok n := fun n h1 h2 => n2_ok h1 h2
  have hm : n4.ok 3405691582 := ⟨by rfl, by unfold i64; decide⟩
  refine ⟨trivial, hm, h0 0 (by decide) (by decide), h0 52 (by decide) (by decide), ⟨by rfl, fun x hx => ?_⟩, h0 33 (by decide) (by decide), ?_, .inl rfl, h0 0 (by decide) (by decide), ⟨Nat.zero_le _, fun _ h => (by cases h)⟩, ⟨Nat.zero_le _, fun _ h => (by cases h)⟩, h0 0 (by decide) (by decide)⟩
  · simp only [smallC, List.mem_cons, List.not_mem_nil, or_false] at hx
    rcases hx with rfl | rfl | rfl <;> (unfold i64; decide)
  · refine ⟨⟨?_, ?_⟩, ?_⟩
    · show 0 < idx (clsP smallC.pool) smallC.pool [97]
      rw [small_idx]
      decide
    · show idx (clsP smallC.pool) smallC.pool [97] < 3
      rw [small_idx]
      decide
    · show n2.ok ((idx (clsP smallC.pool) smallC.pool [97] : Nat) : Int)
      rw [small_idx]
      exact h0 2 (by decide) (by decide)
theorem small_err : errOf smallC = 0 ∧ bytesOf smallC = smallB := by
  rcases err_cases smallC with ⟨h1, _, _, h2⟩ | ⟨h1, _⟩ | ⟨h1, _⟩
  · exact ⟨h1, h2.trans small_enc⟩
  · unfold errOf at h1
    rw [if_pos small_file, small_enc] at h1
    exact absurd h1 (by decide)
  · unfold errOf at h1
    rw [if_pos small_file, small_enc] at h1
    exact absurd h1 (by decide)
theorem small_fine : fCls smallC := ⟨fun x hx => by
    simp only [smallC, List.mem_cons, List.not_mem_nil, or_false] at hx
    rcases hx with rfl | rfl | rfl <;> exact ⟨by unfold Pool.I64; decide, by decide, by unfold Pool.I64; decide, by unfold Pool.I64; decide, by unfold Pool.I64; decide⟩, fun _ h => (by cases h), fun _ h => (by cases h)⟩
theorem works_ok (w : World) (hk : Kt w) (hG : 0 < w.heap.size) : Calls Tryz.prog 9 #[] w fun e w' => e = .returned (.bool true) ∧ New w w' := by
  refine enter ok Tryz.func9 rfl rfl rfl ?_
  refine seq_assign ?_
  refine seq_cut (σ := (Option Addr × Nat) × Int) (fun t => [(1, .slice t.1.1 31 t.1.2), (2, zi t.2)]) (fun t w' => New w w' ∧ t.2 = 0 ∧ Row w' t.1.1 (bvs smallB)) ?_ ?_
  rotate_left
  · intro K hK
    refine call_ (small_ok w) ?_
    rintro e w1 ⟨cs, rfl, hc, n1⟩
    have hc0 := hc
    obtain ⟨_, _, _, rfl, lp, lf, lm⟩ := hc
    obtain ⟨A, q, rfl, _⟩ := lp.get entOk (by decide)
    obtain ⟨Af, cf, rfl, _⟩ := lf.get fldOk (by decide)
    obtain ⟨Am, cm, rfl, _⟩ := lm.get mthOk (by decide)
    refine ⟨_, rfl, ?_⟩
    have hs := n1.size
    refine call_ (Print_ok _ smallC _ w1 hc0 small_fine (fun k h0 h5 => n1.cell (hk k h0 h5)) (by omega) (by decide)) ?_
    rintro e w2 ⟨A2, q2, rfl, row2, _, _, n2⟩
    rw [small_err.2] at row2
    rw [small_err.1, small_err.2]
    refine ⟨_, rfl, ?_⟩
    exact hK ((A2, q2), 0) _ _ ⟨rfl, rfl, trivial⟩ ⟨n1.trans n2, rfl, row2⟩
  rintro ⟨⟨A2, q2⟩, er⟩ w1 fr1 ⟨n1, her, row1⟩
  dsimp only at her row1
  refine if_p (fun _ => ?_) (fun h => absurd her h)
  refine Exists.intro smallB (And.intro rfl (And.intro row1 ?_))
  exact ⟨(show Ending.returned (.bool (decide ((⟨smallB.toArray⟩ : ByteArray) = ⟨smallB.toArray⟩))) = .returned (.bool true) by rw [decide_eq_true rfl]), n1⟩

end Go.Proofs.YtdcaafldnbcdkaaGreatDoor.Class

/-! ### KParses -/
namespace Go.Proofs.YtdcaafldnbcdkaaGreatDoor.Class
open Go Go.Proofs.YtdcaafldnbcdkaaGreatDoor Go.Proofs.YtdcaafldnbcdkaaGreatDoor.Eng Go.Proofs Go.Proofs.YtdcaafldnbcdkaaGreatDoor.Word Go.Proofs.YtdcaafldnbcdkaaGreatDoor.Fmt
open Go.Proofs.YtdcaafldnbcdkaaGreatDoor.Pool (Ent at_ poolF strV entC entV EntOk Pl OkPool both own_low tagAt)
set_option maxRecDepth 10000

theorem Told.one {bs : List UInt8} {x y : Cls} {e1 e2 : Int} (h : Told bs x e1) (k : Told bs y e2) : x = y ∧ e1 = e2 := by
  rcases h with ⟨h1, h2, _⟩ | ⟨h1, h2, h3⟩
  · obtain ⟨k1, k2⟩ := k.good h2
    exact ⟨k2.symm, h1.trans k1.symm⟩
  · obtain ⟨k1, k2⟩ := k.bad h2
    exact ⟨h1.trans k2.symm, h3.trans k1.symm⟩
theorem Told.pool {bs : List UInt8} {x : Cls} {e1 : Int} (h : Told bs x e1) : ∀ y ∈ x.pool, EntOk y := by
  rcases h with ⟨_, _, h3, _⟩ | ⟨h1, _⟩
  · exact h3.1
  · subst h1
    exact fun _ h => (by cases h)
theorem ClassParses_ok (A : Option Addr) (n c : Nat) (bs : List UInt8) (w : World) (hn : n = bs.length) (hr : Row w A (bvs bs)) (hc : n ≤ c) (hc2 : c ≤ 9223372036854775807) (hbig : n ≤ 140737488355328) (hk : Kt w) :
    Calls Tryz.prog 3 #[.slice A n c] w fun e w' => e = .returned (.bool true) ∧ New w w' := by
  subst hn
  have hG : 0 < w.heap.size := World.block_lt_of_cell? w _ (hk 0 (by decide) (by decide))
  have hkw : ∀ {w' : World}, New w w' → Kt w' := fun n k h0 h5 => n.cell (hk k h0 h5)
  have hGw : ∀ {w' : World}, New w w' → 0 < w'.heap.size := fun n => by have := n.size; omega
  refine enter ok Tryz.func3 rfl rfl rfl ?_
  refine seq_assign ?_
  refine seq_cut (σ := List UInt8) (fun xs => [(0, .slice A xs.length c)]) (fun xs w' => w' = w ∧ Row w A (bvs xs) ∧ xs.length ≤ c ∧ xs.length ≤ 140737488355328) ?_ ?_
  rotate_left
  · intro K hK
    refine if_p (fun h1 => ?_) (fun h1 => ?_)
    · replace h1 : (6000 : Int) < (bs.length : Int) := h1
      refine if_p (fun h2 => ?_) (fun h2 => ?_)
      · refine And.intro (by omega) (And.intro (by omega) ?_)
        have hl : (bs.take 6000).length = 6000 := by rw [List.length_take]; omega
        have e : bvs (bs.take 6000) = (bvs bs).take 6000 := by simp [bvs]
        refine hK (bs.take 6000) _ _ ⟨(show Value.slice A 6000 c = .slice A (bs.take 6000).length c by rw [hl]), trivial⟩ ⟨rfl, by rw [e]; exact hr.take 6000, by omega, by omega⟩
      · exact hK bs _ _ ⟨rfl, trivial⟩ ⟨rfl, hr, hc, hbig⟩
    · exact hK bs _ _ ⟨rfl, trivial⟩ ⟨rfl, hr, hc, hbig⟩
  rintro xs wy fry ⟨hwy, hrx, hcx, hbx⟩
  obtain rfl := hwy.symm
  refine seq_cut (σ := Option Addr × Nat) (fun t => [(0, .slice A xs.length c), (3, .slice t.1 xs.length t.2)]) (fun t w' => New w w' ∧ Row w' t.1 (bvs xs) ∧ xs.length ≤ t.2 ∧ t.2 ≤ 9223372036854775807) ?_ ?_
  rotate_left
  · intro K hK
    refine call_ (Base.Bytes_ok A xs.length c xs w rfl hrx hbx) ?_
    rintro e w1 ⟨v1, rfl, own1, n1⟩
    obtain ⟨A1, c1, rfl, h5, h6, row1, _⟩ := own_slice own1
    refine ⟨_, rfl, ?_⟩
    exact hK (A1, c1) _ _ ⟨rfl, rfl, trivial⟩ ⟨n1, row1, h5, h6⟩
  rintro ⟨A1, c1⟩ w1 fr1 ⟨n1, row1, hc11, hc12⟩
  dsimp only at row1 hc11 hc12
  refine seq_cut (σ := Nat × Int) (fun t => [(0, .slice A xs.length c), (3, .slice A1 xs.length c1), (4, .pointer (some ⟨t.1, 0, none⟩)), (5, zi t.2)]) (fun t w' => New w1 w' ∧ ∃ cs y, w'.heap[t.1]? = some (.cells (List.toArray cs) 28 (0, 0)) ∧ clsR w' (fun b => b < w1.heap.size) cs y ∧ Told xs y t.2) ?_ ?_
  rotate_left
  · intro K hK
    refine call_ (Parse_ok A1 c1 xs w1 row1 hc11 hc12 hbx (hkw n1) (hGw n1)) ?_
    intro e w6 hres
    obtain ⟨P1, p1, F1, f1, M1, m1, y, e2, rfl, hy, ht, n6⟩ := hres.told
    refine ⟨_, rfl, ?_⟩
    refine And.intro rfl ?_
    refine storeNew (vs := [.slice P1 y.pool.length p1, strV y.name, strV y.super, .slice F1 y.fields.length f1, .slice M1 y.methods.length m1]) (arr := #[.slice none 0 0, .string ⟨#[]⟩, .string ⟨#[]⟩, .slice none 0 0, .slice none 0 0]) rfl (clsOk.one hy) ?_
    intro w7 hb7 n7 s7
    exact hK (w6.heap.size, e2) _ _ ⟨rfl, rfl, rfl, rfl, trivial⟩ ⟨n6.trans n7, _, y, hb7, clsOk.mod hy (n7.mod.mono fun _ _ e => False.elim e), ht⟩
  rintro ⟨X, e5⟩ w2 fr2 ⟨n12, cs, y, hX2, hy2, ht⟩
  dsimp only at hX2 ht
  have n2 := n1.trans n12
  refine seq_cut (σ := Nat × Int) (fun t => [(0, .slice A xs.length c), (3, .slice A1 xs.length c1), (4, .pointer (some ⟨X, 0, none⟩)), (5, zi e5), (6, .pointer (some ⟨t.1, 0, none⟩)), (7, zi t.2)]) (fun t w' => New w2 w' ∧ ∃ cs y, w'.heap[t.1]? = some (.cells (List.toArray cs) 28 (0, 0)) ∧ clsR w' (fun b => b < w2.heap.size) cs y ∧ Told xs y t.2) ?_ ?_
  rotate_left
  · intro K hK
    refine call_ (rParse_ok A c xs w2 (hrx.new n2) hcx hc2 hbx (hkw n2) (hGw n2)) ?_
    intro e w6 hres
    obtain ⟨P1, p1, F1, f1, M1, m1, y, e2, rfl, hy, ht, n6⟩ := hres.told
    refine ⟨_, rfl, ?_⟩
    refine And.intro rfl ?_
    refine storeNew (vs := [.slice P1 y.pool.length p1, strV y.name, strV y.super, .slice F1 y.fields.length f1, .slice M1 y.methods.length m1]) (arr := #[.slice none 0 0, .string ⟨#[]⟩, .string ⟨#[]⟩, .slice none 0 0, .slice none 0 0]) rfl (clsOk.one hy) ?_
    intro w7 hb7 n7 s7
    exact hK (w6.heap.size, e2) _ _ ⟨rfl, rfl, rfl, rfl, rfl, rfl, trivial⟩ ⟨n6.trans n7, _, y, hb7, clsOk.mod hy (n7.mod.mono fun _ _ e => False.elim e), ht⟩
  rintro ⟨X3, e6⟩ w3 fr3 ⟨n23, cs3, y3, hX3, hy3, ht3⟩
  dsimp only at hX3 ht3
  have n3 := n2.trans n23
  obtain ⟨hyy, hee⟩ := ht.one ht3
  subst hyy
  have hy20 := clsOk.mod hy2 (n23.mod.mono fun _ _ e => False.elim e)
  have hX23 := n23.blk hX2
  have hy21 := hy20
  have hy31 := hy3
  obtain ⟨_, _, _, rfl, lp, lf, lm⟩ := hy20
  obtain ⟨P1, p1, rfl, _⟩ := lp.get entOk (by decide)
  obtain ⟨F1, f1, rfl, _⟩ := lf.get fldOk (by decide)
  obtain ⟨M1, m1, rfl, _⟩ := lm.get mthOk (by decide)
  obtain ⟨_, _, _, rfl, lp2, lf2, lm2⟩ := hy3
  obtain ⟨P2, p2, rfl, _⟩ := lp2.get entOk (by decide)
  obtain ⟨F2, f2, rfl, _⟩ := lf2.get fldOk (by decide)
  obtain ⟨M2, m2, rfl, _⟩ := lm2.get mthOk (by decide)
  refine loadN_row (vs := [.slice P1 y.pool.length p1, strV y.name, strV y.super, .slice F1 y.fields.length f1, .slice M1 y.methods.length m1]) (rowB hX23) rfl ?_
  refine loadN_row (vs := [.slice P2 y.pool.length p2, strV y.name, strV y.super, .slice F2 y.fields.length f2, .slice M2 y.methods.length m2]) (rowB hX3) rfl ?_
  refine call_ (SameClass_ok [.slice P1 y.pool.length p1, strV y.name, strV y.super, .slice F1 y.fields.length f1, .slice M1 y.methods.length m1] [.slice P2 y.pool.length p2, strV y.name, strV y.super, .slice F2 y.fields.length f2, .slice M2 y.methods.length m2] y _ _ w3 hy21 hy31 ht.pool) ?_
  rintro e w4 ⟨rfl, n4⟩
  refine ⟨_, rfl, ?_⟩
  refine if_p (fun _ => ?_) (fun h => absurd hee h)
  have n34 := n3.trans n4
  refine call_ (Base.SameBytes_ok A1 A _ c1 _ c xs xs w4 rfl rfl (row1.new (n12.trans (n23.trans n4))) (hrx.new n34)) ?_
  rintro e w5 ⟨rfl, hw5⟩
  obtain rfl := hw5.symm
  refine ⟨_, rfl, ?_⟩
  rw [decide_eq_true rfl]
  refine call_ (works_ok w4 (hkw n34) (hGw n34)) ?_
  rintro e w6 ⟨rfl, n6⟩
  refine ⟨_, rfl, ?_⟩
  exact ⟨rfl, n34.trans n6⟩

end Go.Proofs.YtdcaafldnbcdkaaGreatDoor.Class

/- The texts KRead2, KRead3, KRead4, KRead5, KRead6, KRead7, PReadP, KParse, KPar1, KPar2 behind one another, merged by mrg.py; each says in its own place what it proves. -/
import Derived.Test.YtdcaafldnbcdkaaGreatDoorGZ4

/-! ### KRead2 -/
namespace Go.Proofs.YtdcaafldnbcdkaaGreatDoor.Class
open Go Go.Proofs.YtdcaafldnbcdkaaGreatDoor Go.Proofs.YtdcaafldnbcdkaaGreatDoor.Eng Go.Proofs Go.Proofs.YtdcaafldnbcdkaaGreatDoor.Word Go.Proofs.YtdcaafldnbcdkaaGreatDoor.Fmt
open Go.Proofs.YtdcaafldnbcdkaaGreatDoor.Pool (rd_modN rd_low RS Ent at_ poolF strV entC entV EntOk Pl OkPool both own_low tagAt)
set_option maxRecDepth 10000

theorem cut_run {P : Program} {T : Tab} {F : FuncId → Bool} (hT : TabOk P T F) {o : Oper} {t : TypeId} {x : Operand} {fr : Fr} {w : World} {ta te : TI} {N : Nat} {e : TypeId} {a : Addr} (ho : o.op = .slice t x none none none) (ht : T t = some ta) (hd : ta.desc = .array N e) (he : T e = some te) (hx : ev fr x = .pointer (some a)) (hN : 0 < N) :
    (execOp (ev fr) o).run P w = .ok (.value (.slice (some a) N N)) w := by
  have hu := hT.desc t ta ht
  rw [hd] at hu
  have hs := hT.size e te he w
  have h0 : ¬ N = 0 := by omega
  simp [execOp, ho, Instr.sliceAt, hx, run_underlying hu, Instr.sureAddr, Instr.sliceBounds, hs, h0, Addr.add]
def kindIx (v : Int) : Int := if v = 0 then 0 else if v = 1 then 1 else if v = 4 then 2 else if v = 5 then 3 else if v = 7 then 4 else -1
theorem kindIx_no {k : Int} (h : 0 ≤ k ∧ k < 5) : kindIx (kindNo k) = k := by
  have : k = 0 ∨ k = 1 ∨ k = 2 ∨ k = 3 ∨ k = 4 := by omega
  rcases this with rfl | rfl | rfl | rfl | rfl <;> rfl
theorem kindIx_none {v : Int} (h : ∀ j : Nat, j < 5 → ¬ v = kindNo j) : kindIx v = -1 := by
  have h0 : ¬ v = 0 := h 0 (by decide)
  have h1 : ¬ v = 1 := h 1 (by decide)
  have h2 : ¬ v = 4 := h 2 (by decide)
  have h3 : ¬ v = 5 := h 3 (by decide)
  have h4 : ¬ v = 7 := h 4 (by decide)
  unfold kindIx
  rw [if_neg h0, if_neg h1, if_neg h2, if_neg h3, if_neg h4]
theorem kindIx_bound (v : Int) : -1 ≤ kindIx v ∧ kindIx v ≤ 4 := by
  unfold kindIx
  repeat' split
  all_goals omega
theorem indexK_ok (v : Int) (w : World) (tbl : Kt w) :
    Calls Tryz.prog 82 #[.slice (some ⟨0, 0, none⟩) 5 5, zi v] w fun e w' => e = .returned (zi (kindIx v)) ∧ w' = w := by
  refine enter ok Tryz.func82 rfl rfl rfl ?_
  refine den_loop (σ := Nat) (fun i => [(0, .slice (some ⟨0, 0, none⟩) 5 5), (1, zi v), (7, zi ((5 : Nat) : Int)), (8, zi (i : Int))])
    (fun m i wl => m + i = 5 ∧ (∀ j : Nat, j < i → ¬ v = kindNo j) ∧ wl = w) 5 0 ⟨rfl, rfl, rfl, rfl, trivial⟩ ⟨rfl, fun j hj => (by omega), rfl⟩ ?_
  rintro m i wl fr0 ⟨hfuel, hno, rfl⟩
  obtain ⟨five, h5⟩ : ∃ n : Nat, n = 5 := ⟨_, rfl⟩
  refine if_p (fun hlt => ?_) (fun hge => ?_)
  · replace hlt : (i : Int) < ((5 : Nat) : Int) := hlt
    have hi : i < 5 := by omega
    obtain ⟨m, rfl⟩ : ∃ m', m = m' + 1 := ⟨m - 1, by omega⟩
    have inc : Value.int .i64 (IntKind.i64.wrap ((i : Int) + 1)) = .int .i64 ((i + 1 : Nat) : Int) := by
      rw [wrap_i64 (by omega) (by omega)]
      rfl
    refine And.intro (by omega) (And.intro hlt ?_)
    have hcell : wl.cell? ((⟨0, 0, none⟩ : Addr).add ((i : Int).toNat * 1)) = some (zi (kindNo (i : Int))) := by
      have h1 := tbl (i : Int) (by omega) (by omega)
      rw [Int.toNat_natCast] at h1 ⊢
      rw [Nat.mul_one]
      have e : ((⟨0, 0, none⟩ : Addr).add i) = ⟨0, i, none⟩ := by
        simp [Addr.add]
        omega
      rw [e]
      exact h1
    refine Exists.intro (kindNo (i : Int)) (And.intro hcell ?_)
    refine if_p (fun he => ?_) (fun hne => ?_)
    · replace he : v = kindNo (i : Int) := he
      rw [he, kindIx_no ⟨by omega, by omega⟩]
      exact ⟨rfl, rfl⟩
    · replace hne : ¬ v = kindNo (i : Int) := hne
      refine ⟨m, i + 1, by omega, ⟨rfl, rfl, rfl, inc, trivial⟩, by omega, fun j hj => ?_, rfl⟩
      rcases Nat.lt_or_ge j i with h1 | h1
      · exact hno j h1
      · have : j = i := by omega
        rw [this]
        exact hne
  · replace hge : ¬ (i : Int) < ((5 : Nat) : Int) := hge
    rw [kindIx_none (fun j hj => hno j (by omega))]
    exact ⟨rfl, rfl⟩
theorem rd_ty {bs : List UInt8} {s s' : RSt} {l : List Ent} {k : Int} {z : List UInt8} (h : Rd (dseqT kindT fun k => if k = 4 then clsT l else nilT) bs s (k, z) s') : Rd (tyT l) bs s ⟨k, z⟩ s' := Rd.by_ (f := fun x : Ty => (x.kind, x.name)) (y := ⟨k, z⟩) h
theorem rkind_ok (h g : Nat) (A : Option Addr) (c : Nat) (bs : List UInt8) (p : Po) (s : RSt) (w : World) (q : Ir w h g A c bs p s) (hO : OkPool p.l) :
    Calls Tryz.prog 46 #[.pointer (some ⟨h, 0, none⟩)] w fun e w' => ∃ cs x s', e = .returned (.agg (List.toArray cs)) ∧ tyR w' (fun b => b < w.heap.size) cs x ∧ Rd (tyT p.l) bs s x s' ∧ cTy x ≤ 0 * (s'.1 - s.1) + 3 ∧ On s s' ∧ Ir w' h g A c bs p s' ∧ Mod (RS h g) w w' := by
  refine enter ok Tryz.func46 rfl rfl rfl ?_
  obtain ⟨V, hV⟩ : ∃ V, V = w.heap.size := ⟨_, rfl⟩
  refine seq_cut (σ := Unit) (fun _ => [(0, .pointer (some ⟨h, 0, none⟩)), (2, .pointer (some ⟨V, 0, none⟩))]) (fun _ w' => New w w' ∧ w'.heap[V]? = some (.cells #[zi 0, .string ⟨#[]⟩] 101 (0, 0))) ?_ ?_
  rotate_left
  · intro K hK
    rw [hV] at hK
    exact hK () _ _ ⟨rfl, rfl, trivial⟩ ⟨New.alloc w _, heap_alloc_new w (.cells #[zi 0, .string ⟨#[]⟩] 101)⟩
  rintro _ w1 fr1 ⟨n1, hV1⟩
  have q1 := q.new n1
  have hVn : ∀ b, Iin h g A bs p b → b ≠ V := fun b hb e => by have := q.lt hb; omega
  have hVr : ¬ RS h g V := fun e => by
    rcases e with e | e
    · exact hVn _ (.inr (.inl rfl)) e.symm
    · exact hVn _ (.inl rfl) e.symm
  refine seq_cut (σ := Int) (fun k => [(0, .pointer (some ⟨h, 0, none⟩)), (2, .pointer (some ⟨V, 0, none⟩)), (3, zi (kindIx k))]) (fun n w' => ∃ s1, Rd Class.n1 bs s n s1 ∧ On s s1 ∧ Ir w' h g A c bs p s1 ∧ Mod (RS h g) w1 w') ?_ ?_
  rotate_left
  · intro K hK
    have nd := New.drew w1
    refine draw_ (w := w1) ok (.q 0 (.q 1 (.e 2 (.e 3 (.q 4 .done))))) [4] (fun _ => True) (by kernel_rfl) (by kernel_rfl) (by kernel_rfl) (by kernel_rfl) (by kernel_rfl) trivial ?_
    refine Exists.intro (.slice (some ⟨0, 0, none⟩) 5 5) (And.intro (fun w'' _ => cut_run ok rfl rfl rfl rfl rfl (by decide)) ?_)
    refine call_ (u_ok h g A c bs p s 1 Pool.w1 w1.drew (q1.new nd)) ?_
    rintro e w2 ⟨n, s1, rfl, r1, hb1, hp1, q2, m2⟩
    refine ⟨_, rfl, ?_⟩
    refine Exists.intro (fun _ => True) (And.intro (fun _ h => h) (And.intro trivial ?_))
    refine call_ (indexK_ok n w2 q2.tbl) ?_
    rintro e w3 ⟨rfl, hw3⟩
    obtain rfl := hw3.symm
    refine ⟨_, rfl, ?_⟩
    refine Exists.intro (fun _ => True) (And.intro (fun _ h => h) (And.intro trivial ?_))
    exact hK n _ _ ⟨rfl, rfl, rfl, trivial⟩ ⟨s1, r1, hp1, q2, Mod.trans nd.mod m2 fun _ _ e => e⟩
  rintro n w2 fr2 ⟨s1, r1, hp1, q2, m2⟩
  have hV2 := m2.blk hV1 hVr
  have rk : Rd kindT bs s (kindIx n) s1 := Rd.to kindIx (fun y hy _ => kindIx_no hy) r1
  have hkb := kindIx_bound n
  generalize kindIx n = k at rk hkb
  have rk2 : Rd kindT bs s k (s1.1, s1.2 || decide (k < 0)) := rk.mark fun o => by
    rw [decide_eq_false (show ¬ k < 0 by have := o.1; omega), Bool.or_false]
  refine seq_cut (σ := Unit) (fun _ => [(0, .pointer (some ⟨h, 0, none⟩)), (2, .pointer (some ⟨V, 0, none⟩)), (3, zi k)]) (fun _ w' => Ir w' h g A c bs p (s1.1, s1.2 || decide (k < 0)) ∧ Mod (RS h g) w1 w') ?_ ?_
  rotate_left
  · intro K hK
    refine if_p (fun hn => ?_) (fun hn => ?_)
    · replace hn : k < 0 := hn
      rw [decide_eq_true hn, Bool.or_true] at hK
      have hb := q2.blk
      refine And.intro ⟨_, cellB hb rfl⟩ (And.intro (fzB hb _) (force_ ?_))
      refine stK hb (show (2 : Nat) < 3 by decide) ?_
      intro w3 hb3 m3 s3
      exact hK () _ _ ⟨rfl, rfl, rfl, trivial⟩ ⟨q2.set m3 hb3, both m2 (m3.mono fun _ _ e => .inr e)⟩
    · replace hn : ¬ k < 0 := hn
      rw [decide_eq_false hn, Bool.or_false] at hK
      exact hK () _ _ ⟨rfl, rfl, rfl, trivial⟩ ⟨q2, m2⟩
  rintro _ w3 fr3 ⟨q3, m3⟩
  have hV3 := m3.blk hV1 hVr
  generalize hs2 : (s1.1, s1.2 || decide (k < 0)) = s2 at rk2 q3
  have hp2 : On s s2 := by
    rw [← hs2]
    exact hp1.or _
  have hs3 := m3.size
  have hn1 := n1.size
  refine seq_cut (σ := Nat) (fun E => [(0, .pointer (some ⟨h, 0, none⟩)), (2, .pointer (some ⟨V, 0, none⟩)), (3, zi k), (4, .pointer (some ⟨E, 0, none⟩))]) (fun E w' => New w3 w' ∧ w3.heap.size ≤ E ∧ w'.heap[E]? = some (.cells #[zi k, strV []] 101 (0, 0))) ?_ ?_
  rotate_left
  · intro K hK
    refine And.intro rfl ?_
    refine storeNew (vs := [zi k, strV []]) (arr := #[zi 0, .string ⟨#[]⟩]) rfl (tyOk.one (w := w3) (S := fun _ => False) (x := ⟨k, []⟩) rfl) ?_
    intro w4 hb4 n4 s4
    exact hK w3.heap.size _ _ ⟨rfl, rfl, rfl, rfl, trivial⟩ ⟨n4, Nat.le_refl _, hb4⟩
  rintro E w4 fr4 ⟨n4, hEw, hE4⟩
  have q4 := q3.new n4
  have hV4 := n4.blk hV3
  have hEn : ∀ b, Iin h g A bs p b → b ≠ E := fun b hb e => by have := q3.lt hb; omega
  have hEr : ¬ RS h g E := fun e => by
    rcases e with e | e
    · exact hEn _ (.inr (.inl rfl)) e.symm
    · exact hEn _ (.inl rfl) e.symm
  have hVl : V < w1.heap.size := (Array.getElem?_eq_some_iff.1 hV1).1
  refine seq_cut (σ := List UInt8) (fun _ => [(0, .pointer (some ⟨h, 0, none⟩)), (2, .pointer (some ⟨V, 0, none⟩)), (3, zi k), (4, .pointer (some ⟨E, 0, none⟩))]) (fun z w' => ∃ s', Rd (tyT p.l) bs s ⟨k, z⟩ s' ∧ On s s' ∧ w'.heap[E]? = some (.cells #[zi k, strV z] 101 (0, 0)) ∧ Ir w' h g A c bs p s' ∧ Mod (fun b => RS h g b ∨ b = E) w4 w') ?_ ?_
  rotate_left
  · intro K hK
    refine if_p (fun h4 => ?_) (fun h4 => ?_)
    · replace h4 : k = 4 := h4
      refine call_ (u_ok h g A c bs p s2 2 Pool.w2 w4 q4) ?_
      rintro e w5 ⟨n5, s5, rfl, r5, hb5, hp5, q5, m5⟩
      refine ⟨_, rfl, ?_⟩
      refine call_ (of_ok h g A c bs p s5 n5 7 w5 q5 hO hb5.1 (.inr rfl)) ?_
      rintro e w6 ⟨rfl, q6, m6⟩
      refine ⟨_, rfl, ?_⟩
      have hE6 := (both m5 m6).blk hE4 hEr
      refine And.intro ⟨_, cellB hE6 rfl⟩ (And.intro (fzB hE6 _) (force_ ?_))
      refine stK hE6 (show (1 : Nat) < 2 by decide) ?_
      intro w7 hb7 m7 s7
      refine hK (ofT p.l n5 7) _ _ ⟨rfl, rfl, rfl, rfl, trivial⟩ ⟨_, rd_ty (rk2.dseq (y := ofT p.l n5 7) ?_), ?_, hb7, q6.modN m7 (fun b hb e => hEn b hb e), Mod.trans ((both m5 m6).mono fun _ _ e => .inl e) m7 fun _ _ e => .inr e⟩
      · rw [if_pos h4]
        exact rd_cls r5
      · exact hp2.trans (hp5.or _)
    · replace h4 : ¬ k = 4 := h4
      refine hK [] _ _ ⟨rfl, rfl, rfl, rfl, trivial⟩ ⟨s2, rd_ty (rk2.dseq (y := []) ?_), hp2, hE4, q4, (New.refl w4).mod.mono fun _ _ e => False.elim e⟩
      rw [if_neg h4]
      exact Rd.nil rk2.2.1
  rintro z w5 fr5 ⟨s', rd5, hp5, hE5, q5, m5⟩
  have hV5 := m5.blk hV4 (fun e => e.elim hVr (by omega))
  refine loadN_row (vs := [zi k, strV z]) (rowB hE5) rfl ?_
  refine And.intro rfl ?_
  refine storeN_all (vs := [zi k, strV z]) hV5 rfl (tyOk.one (w := w5) (S := fun _ => False) (x := ⟨k, z⟩) rfl) ?_
  intro w6 hb6 m6 s6
  refine loadN_row (vs := [zi k, strV z]) (rowB hb6) rfl ?_
  refine ⟨_, ⟨k, z⟩, s', rfl, rfl, rd5, by show 3 ≤ _; omega, hp5, q5.modN m6 (fun b hb e => hVn b hb e), ?_⟩
  have a1 : Mod (RS h g) w w3 := Mod.trans n1.mod m3 fun _ _ e => e
  have a2 : Mod (RS h g) w w4 := both a1 n4.mod
  have a3 : Mod (RS h g) w w5 := Mod.trans a2 m5 fun b hb e => e.elim id fun e => by omega
  exact Mod.trans a3 m6 fun b hb e => by omega

end Go.Proofs.YtdcaafldnbcdkaaGreatDoor.Class

/-! ### KRead3 -/
namespace Go.Proofs.YtdcaafldnbcdkaaGreatDoor.Class
open Go Go.Proofs.YtdcaafldnbcdkaaGreatDoor Go.Proofs.YtdcaafldnbcdkaaGreatDoor.Eng Go.Proofs Go.Proofs.YtdcaafldnbcdkaaGreatDoor.Word Go.Proofs.YtdcaafldnbcdkaaGreatDoor.Fmt
open Go.Proofs.YtdcaafldnbcdkaaGreatDoor.Pool (rd_modN rd_low RS Ent at_ poolF strV entC entV EntOk Pl OkPool both own_low tagAt)
set_option maxRecDepth 10000

/-- A member more: those that are there stay. -/
theorem mem_stepS {α : Type} {R : RepT α} {sz : Nat} (hR : RepOk R sz) {ts : List (List Value × α)} {w wl w5 w7 : World} {o o' : Option Nat} {cs : List Value} {x : α} {S : Nat → Prop} (hts : ∀ t ∈ ts, R wl (fun b => b < w.heap.size ∨ some b = o) t.1 t.2)
    (hx : R w5 (fun b => b < wl.heap.size) cs x) (m5 : Mod S wl w5) (hS : ∀ b, S b → b < w.heap.size) (k57 : Mod (fun b => some b = o) w5 w7) (hz : w.heap.size ≤ wl.heap.size) (ho : ∀ b, some b = o → w.heap.size ≤ b ∧ b < wl.heap.size)
    (st : ∀ b, some b = o' → some b = o ∨ w5.heap.size ≤ b) : ∀ t ∈ ts ++ [(cs, x)], R w7 (fun b => b < w.heap.size ∨ some b = o') t.1 t.2 := by
  intro t ht
  have m5z := m5.size
  rcases List.mem_append.1 ht with ht | ht
  · have h1 := hR.weak (S' := fun b => (b < w.heap.size ∨ some b = o) ∨ wl.heap.size ≤ b) (hts t ht) fun b hb e => e.resolve_right (by omega)
    have h2 := hR.mod h1 (m5.mono fun b hb e => .inl (.inl (hS b e)))
    have h3 := hR.mod h2 (k57.mono fun b hb e => .inl (.inr e))
    refine hR.weak h3 fun b hb e => ?_
    rcases e with e | e
    · exact .inl (.inl e)
    · rcases st b e with e | e
      · exact .inl (.inr e)
      · exact .inr (by omega)
  · rw [List.mem_singleton.1 ht]
    have h1 := hR.weak (S' := fun b => (b < w.heap.size ∨ some b = o) ∨ w5.heap.size ≤ b) hx fun b hb e => by
      rcases e with (e | e) | e
      · omega
      · exact (ho b e).2
      · omega
    have h3 := hR.mod h1 (k57.mono fun b hb e => .inl (.inr e))
    refine hR.weak h3 fun b hb e => ?_
    rcases e with e | e
    · exact .inl (.inl e)
    · rcases st b e with e | e
      · exact .inl (.inr e)
      · exact .inr e

theorem members_ty (h g : Nat) (A : Option Addr) (c : Nat) (bs : List UInt8) (p : Po) (s : RSt) (w : World) (q : Ir w h g A c bs p s) (hO : OkPool p.l)  (hm : bs.length ≤ 1000000) :
    Calls Tryz.prog 45 #[.pointer (some ⟨h, 0, none⟩), .func (.func 46) #[.pointer (some ⟨h, 0, none⟩)] #[]] w fun e w' => ∃ v xs s', e = .returned v ∧ LRep tyR w' (fun b => b < w.heap.size) v xs ∧ Rd (lstT (tyT p.l) 64 (by decide)) bs s xs s' ∧ csum cTy xs ≤ (0 + 3) * (s'.1 - s.1) + 3 ∧ xs.length ≤ (s'.1 - s.1) + 1 ∧ On s s' ∧ Ir w' h g A c bs p s' ∧ Mod (RS h g) w w' := by
  refine enter ok Tryz.func45 rfl rfl rfl ?_
  have low : ∀ b, (RS h g) b → b < w.heap.size := fun b e => q.lt (by rcases e with e | e; exact .inr (.inl e); exact .inl e)
  refine seq_assign ?_
  refine seq_assign ?_
  refine seq_cut (σ := (Option Addr × Nat) × List (List Value × Ty)) (fun t => [(5, .slice t.1.1 t.2.length t.1.2)]) (fun t w' => ∃ s', LRep tyR w' (fun b => b < w.heap.size) (.slice t.1.1 t.2.length t.1.2) (t.2.map (·.2)) ∧ Rd (lstT (tyT p.l) 64 (by decide)) bs s (t.2.map (·.2)) s' ∧ csum cTy (t.2.map (·.2)) ≤ (0 + 3) * (s'.1 - s.1) + 3 ∧ (t.2.map (·.2)).length ≤ (s'.1 - s.1) + 1 ∧ On s s' ∧ Ir w' h g A c bs p s' ∧ Mod (RS h g) w w') ?_ ?_
  · rintro t w1 fr1 ⟨s', h1, h2, h3, h4, h5, h6, h8⟩
    exact ⟨_, _, s', rfl, h1, h2, h3, h4, h5, h6, h8⟩
  intro K hK
  refine seq_cut (σ := Int) (fun n => [(0, .pointer (some ⟨h, 0, none⟩)), (1, .func (.func 46) #[.pointer (some ⟨h, 0, none⟩)] #[]), (5, .slice none 0 0), (6, zi n)]) (fun n w' => ∃ s1, Rd n2 bs s n s1 ∧ (0 ≤ n ∧ n < 65536) ∧ On s s1 ∧ Ir w' h g A c bs p s1 ∧ Mod (RS h g) w w' ∧ Mod (RS h g) w w') ?_ ?_
  rotate_left
  · intro K2 hK2
    refine call_ (u_ok h g A c bs p s 2 Pool.w2 w q) ?_
    rintro e w1 ⟨n, s1, rfl, rd1, hb, o1, p1, m1⟩
    refine ⟨_, rfl, ?_⟩
    exact hK2 n _ _ ⟨rfl, rfl, rfl, rfl, trivial⟩ ⟨s1, rd1, hb, o1, p1, m1.mono fun b hb e => e, m1⟩
  rintro n w1 fr1 ⟨s1, rd1, hn, o1, p1, m1, m1'⟩
  refine den_loop (σ := ((Option Addr × Nat) × List (List Value × Ty)) × Int × RSt) (fun t => [(0, .pointer (some ⟨h, 0, none⟩)), (1, .func (.func 46) #[.pointer (some ⟨h, 0, none⟩)] #[]), (5, .slice t.1.1.1 t.1.2.length t.1.1.2), (6, zi t.2.1)])
    (fun m t wl => m = t.2.1.toNat ∧ LRd (tyT p.l) 64 bs s (t.1.2.map (·.2)) t.2.1.toNat t.2.2 ∧ t.2.1.toNat + t.1.2.length ≤ 65536 ∧ t.2.1 ≤ 65536 ∧ On s t.2.2 ∧ Ir wl h g A c bs p t.2.2 ∧ Mod (RS h g) w wl ∧ LCo cTy 0 3 s (t.1.2.map (·.2)) t.2.2 ∧ wl.ownsRow w.heap.size 101 2 (.slice t.1.1.1 t.1.2.length t.1.1.2) t.1.2.length (cellsOf t.1.2) ∧
      (∀ y ∈ t.1.2, tyR wl (fun b => b < w.heap.size ∨ some b = (Value.slice t.1.1.1 t.1.2.length t.1.1.2).ownBlock) y.1 y.2)) n.toNat (((none, 0), []), n, s1)
    ⟨rfl, rfl, rfl, rfl, trivial⟩ ⟨rfl, LRd.start (by decide) rd1, by simp; omega, by dsimp only; omega, o1, p1, m1, LCo.start, ⟨rfl, .inl ⟨rfl, rfl⟩⟩, (fun _ h => (by cases h))⟩ ?_
  rintro m ⟨⟨⟨Al, cl⟩, ts⟩, z, s2⟩ wl frl ⟨rfl, hinv, hcnt, hz65, on2, pl, kl, hco, own, hts⟩
  dsimp only at hinv hcnt hz65 on2 pl kl hco own hts
  have hown := fun b (e : (Value.slice Al ts.length cl).ownBlock = some b) => own.lt b e
  have klz := kl.size
  have fin : (s2.2 = false → z.toNat = 0) → id (∃ s', LRep tyR wl (fun b => b < w.heap.size) (.slice Al ts.length cl) (ts.map (·.2)) ∧ Rd (lstT (tyT p.l) 64 (by decide)) bs s (ts.map (·.2)) s' ∧ csum cTy (ts.map (·.2)) ≤ (0 + 3) * (s'.1 - s.1) + 3 ∧ (ts.map (·.2)).length ≤ (s'.1 - s.1) + 1 ∧ On s s' ∧ Ir wl h g A c bs p s' ∧ Mod (RS h g) w wl) := fun hz => by
    obtain ⟨A', c', e', h5, h6, row, ho⟩ := own_slice own
    cases e'
    exact ⟨s2, ⟨Al, cl, ts, by rw [List.length_map], rfl, by rw [List.length_map]; exact h5, h6, by rw [List.length_map]; omega, row, fun a ha _ => ⟨(ho a ha).2.1, by have := (ho a ha).1; omega⟩, fun t ht => tyOk.weak (hts t ht) fun b _ hb => .inl hb⟩, hinv.done hz, hco.le.1, hco.le.2, on2, pl, kl⟩
  refine if_p (fun hlt => ?_) (fun hge => ?_)
  · replace hlt : 0 < z := hlt
    refine Exists.intro s2.2 (And.intro (cellB pl.blk rfl) ?_)
    refine if_ (fun hz => ?_) (fun hz => ?_)
    · replace hz : s2.2 = false := by simpa using hz
      obtain ⟨k, hk⟩ : ∃ k, z.toNat = k + 1 := ⟨z.toNat - 1, by omega⟩
      rw [hk] at hinv
      have hk' : (z - 1).toNat = k := by omega
      refine call_ (rkind_ok h g A c bs p s2 wl pl hO) ?_
      rintro e w5 ⟨cs, x, s5, he, hx, rd5, hcost5, hprog5, p5, m5⟩
      subst he
      have hx0 := hx
      obtain rfl := hx
      refine ⟨_, rfl, ?_⟩
      have m5z := m5.size
      have hnR : ∀ b, w.heap.size ≤ b → ¬ (RS h g) b := fun b hb e => by have := low b e; omega
      have own5 := own_mod m5 own (fun b hb => hnR b (hown b hb).1)
      have n6 := New.alloc w5 (.cells [zi x.kind, strV x.name].toArray 101)
      refine append2_ ok rfl rfl rfl rfl (own_new n6 own5) rfl rfl (row_alloc w5 [zi x.kind, strV x.name] _ _) rfl (tyOk.one hx0) (by decide) rfl (by show (ts.length + 1) * 24 ≤ _; omega) (by omega) (Nat.le_trans (by omega) n6.size) ?_
      intro A7 c7 w7 own7 mod7 st7
      have k57 : Mod (fun b => some b = (Value.slice Al ts.length cl).ownBlock) w5 w7 := Mod.trans n6.mod mod7 fun _ _ e => e
      have hl : (ts ++ [([zi x.kind, strV x.name], x)]).length = ts.length + 1 := by simp
      have st : ∀ b, some b = (Value.slice A7 (ts.length + 1) c7).ownBlock → some b = (Value.slice Al ts.length cl).ownBlock ∨ w5.heap.size ≤ b := fun b e => by
        rcases st7 b e.symm with e | e
        · exact .inl e.symm
        · exact .inr (Nat.le_trans n6.size e)
      have hnew := mem_stepS tyOk hts hx0 m5 low k57 klz (fun b e => hown b e.symm) st
      have pow := q.loc p5 k57 fun b e => (hown _ e.symm).1
      refine ⟨(z - 1).toNat, (((A7, c7), ts ++ [([zi x.kind, strV x.name], x)]), z - 1, s5), (by dsimp only; omega), ⟨rfl, rfl, (show Value.slice A7 (ts.length + 1) c7 = .slice A7 (ts ++ [([zi x.kind, strV x.name], x)]).length c7 by rw [hl]), (show zi (IntKind.i64.wrap (z - 1)) = zi (z - 1) by rw [wrap_i64 (by omega) (by omega)]), trivial⟩, rfl, ?_, ?_, by dsimp only; omega, on2.trans hprog5, pow, ?_, ?_, ?_, ?_⟩
      · dsimp only
        rw [hk', List.map_append]
        exact hinv.step rd5
      · dsimp only
        rw [hl]
        omega
      · exact Mod.trans (both kl m5) k57 fun b hb e => by have := hown b e.symm; omega
      · dsimp only
        rw [List.map_append]
        exact hco.step hinv.1 hz hcost5 hprog5
      · dsimp only
        rw [hl, cellsOf_snoc]
        exact own7
      · dsimp only
        rw [hl]
        exact hnew
    · replace hz : s2.2 = true := by simpa using hz
      exact hK ((Al, cl), ts) _ _ ⟨rfl, trivial⟩ (fin fun h => by rw [hz] at h; cases h)
  · replace hge : ¬ 0 < z := hge
    exact hK ((Al, cl), ts) _ _ ⟨rfl, trivial⟩ (fin fun _ => by omega)
theorem rhnd_ok (h g : Nat) (A : Option Addr) (c : Nat) (bs : List UInt8) (p : Po) (s : RSt) (w : World) (q : Ir w h g A c bs p s) (hO : OkPool p.l) (X : Nat) (hX : w.heap[X]? = some (.cells #[.pointer (some ⟨h, 0, none⟩)] 36 (0, 0))) (hXn : ¬ RS h g X) :
    Calls Tryz.prog 41 #[.pointer (some ⟨X, 0, none⟩)] w fun e w' => ∃ cs x s', e = .returned (.agg (List.toArray cs)) ∧ hndR w' (fun b => b < w.heap.size) cs x ∧ Rd (hndT p.l) bs s x s' ∧ cHnd x ≤ 0 * (s'.1 - s.1) + 8 ∧ On s s' ∧ Ir w' h g A c bs p s' ∧ Mod (RS h g) w w' := by
  refine enter ok Tryz.func41 rfl rfl rfl ?_
  obtain ⟨V, hV⟩ : ∃ V, V = w.heap.size := ⟨_, rfl⟩
  refine seq_cut (σ := Unit) (fun _ => [(0, .pointer (some ⟨X, 0, none⟩)), (1, .pointer (some ⟨V, 0, none⟩))]) (fun _ w' => New w w' ∧ w'.heap[V]? = some (.cells #[zi 0, zi 0, zi 0, zi 0] 92 (0, 0))) ?_ ?_
  rotate_left
  · intro K hK
    rw [hV] at hK
    exact hK () _ _ ⟨rfl, rfl, trivial⟩ ⟨New.alloc w _, heap_alloc_new w (.cells #[zi 0, zi 0, zi 0, zi 0] 92)⟩
  rintro _ w0 fr0 ⟨n0, hV0⟩
  have q0 := q.new n0
  have hX0 := n0.blk hX
  have hXl : X < w.heap.size := (Array.getElem?_eq_some_iff.1 hX).1
  have hVn : ∀ b, Iin h g A bs p b → b ≠ V := fun b hb e => by have := q.lt hb; omega
  have hVr : ¬ RS h g V := fun e => by
    rcases e with e | e
    · exact hVn _ (.inr (.inl rfl)) e.symm
    · exact hVn _ (.inl rfl) e.symm
  have hVl : V < w0.heap.size := (Array.getElem?_eq_some_iff.1 hV0).1
  refine seq_cut (σ := Nat × Int) (fun t => [(0, .pointer (some ⟨X, 0, none⟩)), (1, .pointer (some ⟨V, 0, none⟩)), (2, .pointer (some ⟨t.1, 0, none⟩))]) (fun t w' => ∃ s1, Rd Class.n2 bs s t.2 s1 ∧ On s s1 ∧ Ir w' h g A c bs p s1 ∧ Mod (RS h g) w0 w' ∧ w0.heap.size ≤ t.1 ∧ w'.heap[t.1]? = some (.cells #[zi t.2, zi 0, zi 0, zi 0] 92 (0, 0))) ?_ ?_
  rotate_left
  · intro K hK
    refine Exists.intro (some ⟨h, 0, none⟩) (And.intro (cell0 hX0) ?_)
    refine call_ (u_ok h g A c bs p s 2 Pool.w2 w0 q0) ?_
    rintro e w1 ⟨n, s1, rfl, r1, hb1, hp1, q1, m1⟩
    refine ⟨_, rfl, ?_⟩
    refine And.intro rfl ?_
    refine storeNew (vs := [zi n, zi 0, zi 0, zi 0]) (arr := #[zi 0, zi 0, zi 0, zi 0]) rfl (hndOk.one (w := w1) (S := fun _ => False) (x := ⟨n, 0, 0, 0⟩) rfl) ?_
    intro w2 hb2 n2 s2
    exact hK (w1.heap.size, n) _ _ ⟨rfl, rfl, rfl, trivial⟩ ⟨s1, r1, hp1, q1.new n2, both m1 n2.mod, m1.size, hb2⟩
  rintro ⟨E, n1⟩ w1 fr1 ⟨s1, r1, hp1, q1, m1, hEw, hE1⟩
  dsimp only at r1 hEw hE1
  have hE0 : ∀ b, Iin h g A bs p b → b ≠ E := fun b hb e => by have := q0.lt hb; omega
  have hEr : ¬ RS h g E := fun e => by
    rcases e with e | e
    · exact hE0 _ (.inr (.inl rfl)) e.symm
    · exact hE0 _ (.inl rfl) e.symm
  have hX1 := m1.blk hX0 hXn
  have hV1 := m1.blk hV0 hVr
  refine seq_cut (σ := Int) (fun _ => [(0, .pointer (some ⟨X, 0, none⟩)), (1, .pointer (some ⟨V, 0, none⟩)), (2, .pointer (some ⟨E, 0, none⟩))]) (fun n' w' => ∃ s', Rd Class.n2 bs s1 n' s' ∧ On s1 s' ∧ Ir w' h g A c bs p s' ∧ Mod (fun b => RS h g b ∨ b = E) w1 w' ∧ w'.heap[X]? = some (.cells #[.pointer (some ⟨h, 0, none⟩)] 36 (0, 0)) ∧ w'.heap[V]? = some (.cells #[zi 0, zi 0, zi 0, zi 0] 92 (0, 0)) ∧ w'.heap[E]? = some (.cells #[zi n1, zi n', zi 0, zi 0] 92 (0, 0))) ?_ ?_
  rotate_left
  · intro K hK
    refine Exists.intro (some ⟨h, 0, none⟩) (And.intro (cell0 hX1) ?_)
    refine call_ (u_ok h g A c bs p s1 2 Pool.w2 w1 q1) ?_
    rintro e wa ⟨na, sa, rfl, ra, hba, hpa, qa, ma⟩
    refine ⟨_, rfl, ?_⟩
    have hEa := ma.blk hE1 hEr
    refine And.intro ⟨_, cellB hEa rfl⟩ (And.intro (fzB hEa _) (force_ ?_))
    refine stK hEa (show (1 : Nat) < 4 by decide) ?_
    intro wb hEb mb sb
    exact hK na _ _ ⟨rfl, rfl, rfl, trivial⟩ ⟨sa, ra, hpa, qa.modN mb (fun b hb e => hE0 b hb e), Mod.trans (ma.mono fun _ _ e => .inl e) mb fun _ _ e => .inr e, mb.blk (ma.blk hX1 hXn) (show ¬ X = E by have := n0.size; omega), mb.blk (ma.blk hV1 hVr) (show ¬ V = E by omega), hEb⟩
  rintro n2 w2 fr2 ⟨s2, r2, o2, q2, l2, hX2, hV2, hE2⟩
  refine seq_cut (σ := Int) (fun _ => [(0, .pointer (some ⟨X, 0, none⟩)), (1, .pointer (some ⟨V, 0, none⟩)), (2, .pointer (some ⟨E, 0, none⟩))]) (fun n' w' => ∃ s', Rd Class.n2 bs s2 n' s' ∧ On s2 s' ∧ Ir w' h g A c bs p s' ∧ Mod (fun b => RS h g b ∨ b = E) w1 w' ∧ w'.heap[X]? = some (.cells #[.pointer (some ⟨h, 0, none⟩)] 36 (0, 0)) ∧ w'.heap[V]? = some (.cells #[zi 0, zi 0, zi 0, zi 0] 92 (0, 0)) ∧ w'.heap[E]? = some (.cells #[zi n1, zi n2, zi n', zi 0] 92 (0, 0))) ?_ ?_
  rotate_left
  · intro K hK
    refine Exists.intro (some ⟨h, 0, none⟩) (And.intro (cell0 hX2) ?_)
    refine call_ (u_ok h g A c bs p s2 2 Pool.w2 w2 q2) ?_
    rintro e wa ⟨na, sa, rfl, ra, hba, hpa, qa, ma⟩
    refine ⟨_, rfl, ?_⟩
    have hEa := ma.blk hE2 hEr
    refine And.intro ⟨_, cellB hEa rfl⟩ (And.intro (fzB hEa _) (force_ ?_))
    refine stK hEa (show (2 : Nat) < 4 by decide) ?_
    intro wb hEb mb sb
    exact hK na _ _ ⟨rfl, rfl, rfl, trivial⟩ ⟨sa, ra, hpa, qa.modN mb (fun b hb e => hE0 b hb e), both l2 (Mod.trans (ma.mono fun _ _ e => .inl e) mb fun _ _ e => .inr e), mb.blk (ma.blk hX2 hXn) (show ¬ X = E by have := n0.size; omega), mb.blk (ma.blk hV2 hVr) (show ¬ V = E by omega), hEb⟩
  rintro n3 w3 fr3 ⟨s3, r3, o3, q3, l3, hX3, hV3, hE3⟩
  refine seq_cut (σ := Int) (fun _ => [(0, .pointer (some ⟨X, 0, none⟩)), (1, .pointer (some ⟨V, 0, none⟩)), (2, .pointer (some ⟨E, 0, none⟩))]) (fun n' w' => ∃ s', Rd Class.n2 bs s3 n' s' ∧ On s3 s' ∧ Ir w' h g A c bs p s' ∧ Mod (fun b => RS h g b ∨ b = E) w1 w' ∧ w'.heap[X]? = some (.cells #[.pointer (some ⟨h, 0, none⟩)] 36 (0, 0)) ∧ w'.heap[V]? = some (.cells #[zi 0, zi 0, zi 0, zi 0] 92 (0, 0)) ∧ w'.heap[E]? = some (.cells #[zi n1, zi n2, zi n3, zi n'] 92 (0, 0))) ?_ ?_
  rotate_left
  · intro K hK
    refine Exists.intro (some ⟨h, 0, none⟩) (And.intro (cell0 hX3) ?_)
    refine call_ (u_ok h g A c bs p s3 2 Pool.w2 w3 q3) ?_
    rintro e wa ⟨na, sa, rfl, ra, hba, hpa, qa, ma⟩
    refine ⟨_, rfl, ?_⟩
    have hEa := ma.blk hE3 hEr
    refine And.intro ⟨_, cellB hEa rfl⟩ (And.intro (fzB hEa _) (force_ ?_))
    refine stK hEa (show (3 : Nat) < 4 by decide) ?_
    intro wb hEb mb sb
    exact hK na _ _ ⟨rfl, rfl, rfl, trivial⟩ ⟨sa, ra, hpa, qa.modN mb (fun b hb e => hE0 b hb e), both l3 (Mod.trans (ma.mono fun _ _ e => .inl e) mb fun _ _ e => .inr e), mb.blk (ma.blk hX3 hXn) (show ¬ X = E by have := n0.size; omega), mb.blk (ma.blk hV3 hVr) (show ¬ V = E by omega), hEb⟩
  rintro n4 w4 fr4 ⟨s4, r4, o4, q4, l4, hX4, hV4, hE4⟩
  refine loadN_row (vs := [zi n1, zi n2, zi n3, zi n4]) (rowB hE4) rfl ?_
  refine And.intro rfl ?_
  refine storeN_all (vs := [zi n1, zi n2, zi n3, zi n4]) hV4 rfl (hndOk.one (w := w4) (S := fun _ => False) (x := ⟨n1, n2, n3, n4⟩) rfl) ?_
  intro w5 hb5 m5 s5
  refine loadN_row (vs := [zi n1, zi n2, zi n3, zi n4]) (rowB hb5) rfl ?_
  have hn0 := n0.size
  refine ⟨_, ⟨n1, n2, n3, n4⟩, s4, rfl, rfl, Rd.byP (f := fun h : Hnd => (h.from_, h.to, h.at_, h.cls)) (y := ⟨n1, n2, n3, n4⟩) (r1.seq (r2.seq (r3.seq r4))) (fun z e => by cases z; cases e; rfl), by show 8 ≤ _; omega, ?_, q4.modN m5 (fun b hb e => hVn b hb e), ?_⟩
  · exact hp1.trans (o2.trans (o3.trans o4))
  · have a1 : Mod (RS h g) w w1 := Mod.trans n0.mod m1 fun _ _ e => e
    have a2 : Mod (RS h g) w w4 := Mod.trans a1 l4 fun b hb e => e.elim id fun e => by omega
    exact Mod.trans a2 m5 fun b hb e => by omega

theorem members_hnd (h g : Nat) (A : Option Addr) (c : Nat) (bs : List UInt8) (p : Po) (s : RSt) (w : World) (q : Ir w h g A c bs p s) (hO : OkPool p.l) (X : Nat) (hX : w.heap[X]? = some (.cells #[.pointer (some ⟨h, 0, none⟩)] 36 (0, 0))) (hXn : ¬ RS h g X) (hm : bs.length ≤ 1000000) :
    Calls Tryz.prog 40 #[.pointer (some ⟨h, 0, none⟩), .func (.func 41) #[] #[.pointer (some ⟨X, 0, none⟩)]] w fun e w' => ∃ v xs s', e = .returned v ∧ LRep hndR w' (fun b => b < w.heap.size) v xs ∧ Rd (lstT (hndT p.l) 256 (by decide)) bs s xs s' ∧ csum cHnd xs ≤ (0 + 8) * (s'.1 - s.1) + 8 ∧ xs.length ≤ (s'.1 - s.1) + 1 ∧ On s s' ∧ Ir w' h g A c bs p s' ∧ Mod (RS h g) w w' := by
  refine enter ok Tryz.func40 rfl rfl rfl ?_
  have low : ∀ b, (RS h g) b → b < w.heap.size := fun b e => q.lt (by rcases e with e | e; exact .inr (.inl e); exact .inl e)
  refine seq_assign ?_
  refine seq_assign ?_
  refine seq_cut (σ := (Option Addr × Nat) × List (List Value × Hnd)) (fun t => [(5, .slice t.1.1 t.2.length t.1.2)]) (fun t w' => ∃ s', LRep hndR w' (fun b => b < w.heap.size) (.slice t.1.1 t.2.length t.1.2) (t.2.map (·.2)) ∧ Rd (lstT (hndT p.l) 256 (by decide)) bs s (t.2.map (·.2)) s' ∧ csum cHnd (t.2.map (·.2)) ≤ (0 + 8) * (s'.1 - s.1) + 8 ∧ (t.2.map (·.2)).length ≤ (s'.1 - s.1) + 1 ∧ On s s' ∧ Ir w' h g A c bs p s' ∧ Mod (RS h g) w w') ?_ ?_
  · rintro t w1 fr1 ⟨s', h1, h2, h3, h4, h5, h6, h8⟩
    exact ⟨_, _, s', rfl, h1, h2, h3, h4, h5, h6, h8⟩
  intro K hK
  refine seq_cut (σ := Int) (fun n => [(0, .pointer (some ⟨h, 0, none⟩)), (1, .func (.func 41) #[] #[.pointer (some ⟨X, 0, none⟩)]), (5, .slice none 0 0), (6, zi n)]) (fun n w' => ∃ s1, Rd n2 bs s n s1 ∧ (0 ≤ n ∧ n < 65536) ∧ On s s1 ∧ Ir w' h g A c bs p s1 ∧ Mod (RS h g) w w' ∧ Mod (RS h g) w w') ?_ ?_
  rotate_left
  · intro K2 hK2
    refine call_ (u_ok h g A c bs p s 2 Pool.w2 w q) ?_
    rintro e w1 ⟨n, s1, rfl, rd1, hb, o1, p1, m1⟩
    refine ⟨_, rfl, ?_⟩
    exact hK2 n _ _ ⟨rfl, rfl, rfl, rfl, trivial⟩ ⟨s1, rd1, hb, o1, p1, m1.mono fun b hb e => e, m1⟩
  rintro n w1 fr1 ⟨s1, rd1, hn, o1, p1, m1, m1'⟩
  refine den_loop (σ := ((Option Addr × Nat) × List (List Value × Hnd)) × Int × RSt) (fun t => [(0, .pointer (some ⟨h, 0, none⟩)), (1, .func (.func 41) #[] #[.pointer (some ⟨X, 0, none⟩)]), (5, .slice t.1.1.1 t.1.2.length t.1.1.2), (6, zi t.2.1)])
    (fun m t wl => m = t.2.1.toNat ∧ LRd (hndT p.l) 256 bs s (t.1.2.map (·.2)) t.2.1.toNat t.2.2 ∧ t.2.1.toNat + t.1.2.length ≤ 65536 ∧ t.2.1 ≤ 65536 ∧ On s t.2.2 ∧ Ir wl h g A c bs p t.2.2 ∧ Mod (RS h g) w wl ∧ LCo cHnd 0 8 s (t.1.2.map (·.2)) t.2.2 ∧ wl.ownsRow w.heap.size 92 4 (.slice t.1.1.1 t.1.2.length t.1.1.2) t.1.2.length (cellsOf t.1.2) ∧
      (∀ y ∈ t.1.2, hndR wl (fun b => b < w.heap.size ∨ some b = (Value.slice t.1.1.1 t.1.2.length t.1.1.2).ownBlock) y.1 y.2)) n.toNat (((none, 0), []), n, s1)
    ⟨rfl, rfl, rfl, rfl, trivial⟩ ⟨rfl, LRd.start (by decide) rd1, by simp; omega, by dsimp only; omega, o1, p1, m1, LCo.start, ⟨rfl, .inl ⟨rfl, rfl⟩⟩, (fun _ h => (by cases h))⟩ ?_
  rintro m ⟨⟨⟨Al, cl⟩, ts⟩, z, s2⟩ wl frl ⟨rfl, hinv, hcnt, hz65, on2, pl, kl, hco, own, hts⟩
  dsimp only at hinv hcnt hz65 on2 pl kl hco own hts
  have hown := fun b (e : (Value.slice Al ts.length cl).ownBlock = some b) => own.lt b e
  have klz := kl.size
  have fin : (s2.2 = false → z.toNat = 0) → id (∃ s', LRep hndR wl (fun b => b < w.heap.size) (.slice Al ts.length cl) (ts.map (·.2)) ∧ Rd (lstT (hndT p.l) 256 (by decide)) bs s (ts.map (·.2)) s' ∧ csum cHnd (ts.map (·.2)) ≤ (0 + 8) * (s'.1 - s.1) + 8 ∧ (ts.map (·.2)).length ≤ (s'.1 - s.1) + 1 ∧ On s s' ∧ Ir wl h g A c bs p s' ∧ Mod (RS h g) w wl) := fun hz => by
    obtain ⟨A', c', e', h5, h6, row, ho⟩ := own_slice own
    cases e'
    exact ⟨s2, ⟨Al, cl, ts, by rw [List.length_map], rfl, by rw [List.length_map]; exact h5, h6, by rw [List.length_map]; omega, row, fun a ha _ => ⟨(ho a ha).2.1, by have := (ho a ha).1; omega⟩, fun t ht => hndOk.weak (hts t ht) fun b _ hb => .inl hb⟩, hinv.done hz, hco.le.1, hco.le.2, on2, pl, kl⟩
  refine if_p (fun hlt => ?_) (fun hge => ?_)
  · replace hlt : 0 < z := hlt
    refine Exists.intro s2.2 (And.intro (cellB pl.blk rfl) ?_)
    refine if_ (fun hz => ?_) (fun hz => ?_)
    · replace hz : s2.2 = false := by simpa using hz
      obtain ⟨k, hk⟩ : ∃ k, z.toNat = k + 1 := ⟨z.toNat - 1, by omega⟩
      rw [hk] at hinv
      have hk' : (z - 1).toNat = k := by omega
      refine call_ (rhnd_ok h g A c bs p s2 wl pl hO X (kl.blk hX hXn) hXn) ?_
      rintro e w5 ⟨cs, x, s5, he, hx, rd5, hcost5, hprog5, p5, m5⟩
      subst he
      have hx0 := hx
      obtain rfl := hx
      refine ⟨_, rfl, ?_⟩
      have m5z := m5.size
      have hnR : ∀ b, w.heap.size ≤ b → ¬ (RS h g) b := fun b hb e => by have := low b e; omega
      have own5 := own_mod m5 own (fun b hb => hnR b (hown b hb).1)
      have n6 := New.alloc w5 (.cells [zi x.from_, zi x.to, zi x.at_, zi x.cls].toArray 92)
      refine append2_ ok rfl rfl rfl rfl (own_new n6 own5) rfl rfl (row_alloc w5 [zi x.from_, zi x.to, zi x.at_, zi x.cls] _ _) rfl (hndOk.one hx0) (by decide) rfl (by show (ts.length + 1) * 32 ≤ _; omega) (by omega) (Nat.le_trans (by omega) n6.size) ?_
      intro A7 c7 w7 own7 mod7 st7
      have k57 : Mod (fun b => some b = (Value.slice Al ts.length cl).ownBlock) w5 w7 := Mod.trans n6.mod mod7 fun _ _ e => e
      have hl : (ts ++ [([zi x.from_, zi x.to, zi x.at_, zi x.cls], x)]).length = ts.length + 1 := by simp
      have st : ∀ b, some b = (Value.slice A7 (ts.length + 1) c7).ownBlock → some b = (Value.slice Al ts.length cl).ownBlock ∨ w5.heap.size ≤ b := fun b e => by
        rcases st7 b e.symm with e | e
        · exact .inl e.symm
        · exact .inr (Nat.le_trans n6.size e)
      have hnew := mem_stepS hndOk hts hx0 m5 low k57 klz (fun b e => hown b e.symm) st
      have pow := q.loc p5 k57 fun b e => (hown _ e.symm).1
      refine ⟨(z - 1).toNat, (((A7, c7), ts ++ [([zi x.from_, zi x.to, zi x.at_, zi x.cls], x)]), z - 1, s5), (by dsimp only; omega), ⟨rfl, rfl, (show Value.slice A7 (ts.length + 1) c7 = .slice A7 (ts ++ [([zi x.from_, zi x.to, zi x.at_, zi x.cls], x)]).length c7 by rw [hl]), (show zi (IntKind.i64.wrap (z - 1)) = zi (z - 1) by rw [wrap_i64 (by omega) (by omega)]), trivial⟩, rfl, ?_, ?_, by dsimp only; omega, on2.trans hprog5, pow, ?_, ?_, ?_, ?_⟩
      · dsimp only
        rw [hk', List.map_append]
        exact hinv.step rd5
      · dsimp only
        rw [hl]
        omega
      · exact Mod.trans (both kl m5) k57 fun b hb e => by have := hown b e.symm; omega
      · dsimp only
        rw [List.map_append]
        exact hco.step hinv.1 hz hcost5 hprog5
      · dsimp only
        rw [hl, cellsOf_snoc]
        exact own7
      · dsimp only
        rw [hl]
        exact hnew
    · replace hz : s2.2 = true := by simpa using hz
      exact hK ((Al, cl), ts) _ _ ⟨rfl, trivial⟩ (fin fun h => by rw [hz] at h; cases h)
  · replace hge : ¬ 0 < z := hge
    exact hK ((Al, cl), ts) _ _ ⟨rfl, trivial⟩ (fin fun _ => by omega)

end Go.Proofs.YtdcaafldnbcdkaaGreatDoor.Class

/-! ### KRead4 -/
namespace Go.Proofs.YtdcaafldnbcdkaaGreatDoor.Class
open Go Go.Proofs.YtdcaafldnbcdkaaGreatDoor Go.Proofs.YtdcaafldnbcdkaaGreatDoor.Eng Go.Proofs Go.Proofs.YtdcaafldnbcdkaaGreatDoor.Word Go.Proofs.YtdcaafldnbcdkaaGreatDoor.Fmt
open Go.Proofs.YtdcaafldnbcdkaaGreatDoor.Pool (rd_modN rd_low RS Ent at_ poolF strV entC entV EntOk Pl OkPool both own_low tagAt)
set_option maxRecDepth 10000

def locIn : List Ty → List Ty
  | [] => []
  | x :: r => if x.kind = 2 then x :: ty0 :: locIn r else x :: locIn r
theorem locIn_snoc (x : Ty) : ∀ a : List Ty, locIn (a ++ [x]) = locIn a ++ (if x.kind = 2 then [x, ty0] else [x])
  | [] => by
    show (if x.kind = 2 then _ else _) = _
    split <;> rfl
  | y :: r => by
    have ih := locIn_snoc x r
    show (if y.kind = 2 then y :: ty0 :: locIn (r ++ [x]) else y :: locIn (r ++ [x])) = (if y.kind = 2 then y :: ty0 :: locIn r else y :: locIn r) ++ _
    rw [ih]
    split <;> rfl
theorem locIn_len : ∀ a : List Ty, (locIn a).length ≤ 2 * a.length
  | [] => Nat.le_refl _
  | x :: r => by
    have := locIn_len r
    show (if x.kind = 2 then x :: ty0 :: locIn r else x :: locIn r).length ≤ _
    split
    · rw [List.length_cons, List.length_cons, List.length_cons]; omega
    · rw [List.length_cons, List.length_cons]; omega
theorem locIn_out : ∀ ys : List Ty, locOk false ys → locIn (locOut false ys) = ys
  | [], _ => rfl
  | [x], h => by
    by_cases hk : x.kind = 2
    · have h : locOk (decide (x.kind = 2)) [] := h
      rw [decide_eq_true hk] at h
      exact h.elim
    · show (if x.kind = 2 then x :: ty0 :: locIn (locOut (decide (x.kind = 2)) []) else x :: locIn (locOut (decide (x.kind = 2)) [])) = _
      rw [if_neg hk, decide_eq_false hk]
      rfl
  | x :: y :: r, h => by
    have h : locOk (decide (x.kind = 2)) (y :: r) := h
    show (if x.kind = 2 then x :: ty0 :: locIn (locOut (decide (x.kind = 2)) (y :: r)) else x :: locIn (locOut (decide (x.kind = 2)) (y :: r))) = _
    by_cases hk : x.kind = 2
    · rw [decide_eq_true hk] at h
      rw [if_pos hk, decide_eq_true hk]
      obtain ⟨h1, h2⟩ := h
      subst h1
      show x :: ty0 :: locIn (locOut false r) = _
      rw [locIn_out r h2]
    · rw [decide_eq_false hk] at h
      rw [if_neg hk, decide_eq_false hk, locIn_out (y :: r) h]
theorem rlocals_ok (h g : Nat) (A : Option Addr) (c : Nat) (bs : List UInt8) (p : Po) (s : RSt) (w : World) (q : Ir w h g A c bs p s) (hO : OkPool p.l) (hm : bs.length ≤ 1000000) :
    Calls Tryz.prog 44 #[.pointer (some ⟨h, 0, none⟩)] w fun e w' => ∃ v ys s', e = .returned v ∧ LRep tyR w' (fun b => b < w.heap.size) v ys ∧ Rd (lcsT p.l) bs s ys s' ∧ ys.length ≤ 2 * ((s'.1 - s.1) + 1) ∧ On s s' ∧ Ir w' h g A c bs p s' ∧ Mod (RS h g) w w' := by
  refine enter ok Tryz.func44 rfl rfl rfl ?_
  refine seq_assign ?_
  refine seq_assign ?_
  refine seq_cut (σ := (Option Addr × Nat) × List Ty) (fun t => [(3, .slice t.1.1 t.2.length t.1.2)]) (fun t w' => ∃ s', LRep tyR w' (fun b => b < w.heap.size) (.slice t.1.1 t.2.length t.1.2) t.2 ∧ Rd (lcsT p.l) bs s t.2 s' ∧ t.2.length ≤ 2 * ((s'.1 - s.1) + 1) ∧ On s s' ∧ Ir w' h g A c bs p s' ∧ Mod (RS h g) w w') ?_ ?_
  · rintro t w1 fr1 ⟨s', h1, h2, h3, h4, h5, h6⟩
    exact ⟨_, _, s', rfl, h1, h2, h3, h4, h5, h6⟩
  intro K hK
  refine seq_cut (σ := (Option Addr × Nat) × List Ty) (fun t => [(3, .slice none 0 0), (9, .slice t.1.1 t.2.length t.1.2), (10, zi (t.2.length : Int)), (11, zi 0)]) (fun t w' => ∃ s', LRep tyR w' (fun b => b < w.heap.size) (.slice t.1.1 t.2.length t.1.2) t.2 ∧ Rd (stkT p.l) bs s t.2 s' ∧ t.2.length ≤ (s'.1 - s.1) + 1 ∧ On s s' ∧ Ir w' h g A c bs p s' ∧ Mod (RS h g) w w') ?_ ?_
  rotate_left
  · intro K2 hK2
    refine call_ (members_ty h g A c bs p s w q hO hm) ?_
    rintro e w1 ⟨v, xs, s', rfl, hl, r, _, hlen, o, q1, m1⟩
    obtain ⟨Ax, cx, rfl, _⟩ := hl.get tyOk (by decide)
    refine ⟨_, rfl, ?_⟩
    exact hK2 ((Ax, cx), xs) _ _ ⟨rfl, rfl, rfl, rfl, trivial⟩ ⟨s', hl, r, hlen, o, q1, m1⟩
  rintro ⟨⟨Ax, cx⟩, xs⟩ w1 fr1 ⟨s', hl, r, hlen, o, q1, m1⟩
  dsimp only at hl r hlen
  obtain ⟨_, _, he0, h43, _⟩ := hl.get tyOk (by decide)
  have hrl := r.2.1
  have m1z := m1.size
  refine den_loop (σ := Nat × ((Option Addr × Nat) × List Ty)) (fun t => [(3, .slice t.2.1.1 t.2.2.length t.2.1.2), (9, .slice Ax xs.length cx), (10, zi (xs.length : Int)), (11, zi (t.1 : Int))])
    (fun m t wl => m + t.1 = xs.length ∧ t.2.2 = locIn (xs.take t.1) ∧ Mod (fun b => w1.heap.size ≤ b) w1 wl ∧ wl.ownsRow w1.heap.size 101 2 (.slice t.2.1.1 t.2.2.length t.2.1.2) t.2.2.length (cellsOf (t.2.2.map fun y => ([zi y.kind, strV y.name], y)))) xs.length (0, (none, 0), [])
    ⟨rfl, rfl, rfl, rfl, trivial⟩ ⟨rfl, rfl, (New.refl w1).mod.mono fun _ _ e => False.elim e, ⟨rfl, .inl ⟨rfl, rfl⟩⟩⟩ ?_
  rintro m ⟨i, ⟨Ao, co⟩, os⟩ wl frl ⟨hfuel, hos, ml, own⟩
  dsimp only at hfuel hos own
  have mlz := ml.size
  have holen : os.length ≤ 2 * i := by
    have := locIn_len (xs.take i)
    rw [← hos, List.length_take] at this
    omega
  refine if_p (fun hlt => ?_) (fun hge => ?_)
  · replace hlt : (i : Int) < (xs.length : Int) := hlt
    have hi : i < xs.length := by omega
    obtain ⟨m, rfl⟩ : ∃ m', m = m' + 1 := ⟨m - 1, by omega⟩
    have inc : Value.int .i64 (IntKind.i64.wrap ((i : Int) + 1)) = .int .i64 ((i + 1 : Nat) : Int) := incN hi h43
    have hl1 : LRep tyR w1 (fun b => w1.heap.size ≤ b) (.slice Ax xs.length cx) xs := LRep.weak tyOk hl fun b hb e => absurd hb (by omega)
    obtain ⟨_, _, he, _, gx⟩ := (LRep.mod tyOk (by decide) hl1 ml).get tyOk (by decide)
    cases he
    obtain ⟨a, cs, ea, hx, hc⟩ := gx i hi
    have htake : locIn (xs.take (i + 1)) = os ++ (if xs[i].kind = 2 then [xs[i], ty0] else [xs[i]]) := by
      rw [List.take_succ_eq_append_getElem hi, locIn_snoc, hos]
    generalize xs[i] = y at hx htake
    obtain rfl := hx
    refine And.intro (by omega) (And.intro hlt ?_)
    refine some_at ea ?_
    refine loadN_row (vs := [zi y.kind, strV y.name]) (fun j u hu => by rw [Int.toNat_natCast]; exact hc j u hu) rfl ?_
    refine And.intro rfl ?_
    refine storeNew (vs := [zi y.kind, strV y.name]) (arr := #[zi 0, .string ⟨#[]⟩]) rfl (tyOk.one (w := wl) (S := fun _ => False) (x := y) rfl) ?_
    intro w5 hb5 n5 s5
    refine loadN_row (vs := [zi y.kind, strV y.name]) (rowB hb5) rfl ?_
    have own5 := own_new n5 own
    have n6 := New.alloc w5 (.cells [zi y.kind, strV y.name].toArray 101)
    have n5z := n5.size
    have n6z := n6.size
    refine append2_ ok rfl rfl rfl rfl (own_new n6 own5) rfl rfl (row_alloc w5 [zi y.kind, strV y.name] _ _) rfl (tyOk.one (w := wl) (S := fun _ => False) (x := y) rfl) (by decide) rfl (by show (os.length + 1) * 24 ≤ _; omega) (by omega) (Nat.le_trans (show w1.heap.size ≤ w5.heap.size by omega) n6.size) ?_
    intro A7 c7 w7 own7 mod7 st7
    have m7 : Mod (fun b => w1.heap.size ≤ b) w1 w7 := Mod.trans (Mod.trans ml (n5.trans n6).mod fun _ _ e => False.elim e) mod7 fun b hb e => (own.lt b e.symm).1
    have m57 : Mod (fun b => some b = (Value.slice Ao os.length co).ownBlock) w5 w7 := Mod.trans n6.mod mod7 fun _ _ e => e
    have hb7 := m57.blk hb5 (fun e => by have := (own.lt _ e.symm).2; omega)
    refine Exists.intro y.kind (And.intro (cellB hb7 rfl) ?_)
    have m7z : w1.heap.size ≤ w7.heap.size := m7.size
    refine if_p (fun hk => ?_) (fun hk => ?_)
    · replace hk : y.kind = 2 := hk
      rw [if_pos hk] at htake
      have n8 := New.alloc w7 (.cells [zi 0, strV []].toArray 101)
      have n8z := n8.size
      refine append2_ ok rfl rfl rfl rfl (own_new n8 own7) rfl rfl (row_alloc w7 [zi 0, strV []] _ _) rfl (tyOk.one (w := wl) (S := fun _ => False) (x := ty0) rfl) (by decide) rfl (by show (os.length + 1 + 1) * 24 ≤ _; omega) (by omega) (Nat.le_trans m7z n8.size) ?_
      intro A9 c9 w9 own9 mod9 st9
      have hl9 : (os ++ [y, ty0]).length = os.length + 1 + 1 := by simp
      refine ⟨m, (i + 1, (A9, c9), os ++ [y, ty0]), by omega, ⟨(show Value.slice A9 (os.length + 1 + 1) c9 = .slice A9 (os ++ [y, ty0]).length c9 by rw [hl9]), rfl, rfl, inc, trivial⟩, by dsimp only; omega, htake.symm, Mod.trans (Mod.trans m7 n8.mod fun _ _ e => False.elim e) mod9 fun b hb e => (own7.lt b e.symm).1, ?_⟩
      dsimp only
      rw [hl9, show os ++ [y, ty0] = (os ++ [y]) ++ [ty0] by simp, List.map_append, List.map_append, List.map_cons, List.map_nil, List.map_cons, List.map_nil, cellsOf_snoc, cellsOf_snoc]
      exact own9
    · replace hk : ¬ y.kind = 2 := hk
      rw [if_neg hk] at htake
      have hl7 : (os ++ [y]).length = os.length + 1 := by simp
      refine ⟨m, (i + 1, (A7, c7), os ++ [y]), by omega, ⟨(show Value.slice A7 (os.length + 1) c7 = .slice A7 (os ++ [y]).length c7 by rw [hl7]), rfl, rfl, inc, trivial⟩, by dsimp only; omega, htake.symm, m7, ?_⟩
      dsimp only
      rw [hl7, List.map_append, List.map_cons, List.map_nil, cellsOf_snoc]
      exact own7
  · replace hge : ¬ (i : Int) < (xs.length : Int) := hge
    rw [List.take_of_length_le (by omega)] at hos
    obtain ⟨A', c', e', h5, h6, row, ho⟩ := own_slice own
    cases e'
    refine hK ((Ao, co), os) _ _ ⟨rfl, trivial⟩ ⟨s', ⟨Ao, co, os.map fun y => ([zi y.kind, strV y.name], y), rfl, by rw [List.map_map]; exact List.map_id _, h5, h6, by dsimp only; omega, row, fun a ha _ => ⟨(ho a ha).2.1, by have := (ho a ha).1; omega⟩, fun t ht => ?_⟩, ?_, by dsimp only; omega, o, q.loc q1 ml (fun b e => by omega), Mod.trans m1 ml fun b hb e => by omega⟩
    · obtain ⟨y, _, rfl⟩ := List.mem_map.1 ht
      rfl
    · dsimp only
      rw [hos]
      exact Rd.to locIn (fun y hy _ => locIn_out y hy.2) r

end Go.Proofs.YtdcaafldnbcdkaaGreatDoor.Class

/-! ### KRead5 -/
namespace Go.Proofs.YtdcaafldnbcdkaaGreatDoor.Class
open Go Go.Proofs.YtdcaafldnbcdkaaGreatDoor Go.Proofs.YtdcaafldnbcdkaaGreatDoor.Eng Go.Proofs Go.Proofs.YtdcaafldnbcdkaaGreatDoor.Word Go.Proofs.YtdcaafldnbcdkaaGreatDoor.Fmt
open Go.Proofs.YtdcaafldnbcdkaaGreatDoor.Pool (rd_modN rd_low RS Ent at_ poolF strV entC entV EntOk Pl OkPool both own_low tagAt)
set_option maxRecDepth 10000

theorem i64_wrap (z : Int) : i64 (IntKind.i64.wrap z) := by
  rw [IntKind.wrap_i64]
  unfold i64
  omega
theorem rd_far {bs : List UInt8} {s s1 : RSt} {n last : Int} (h : Rd Class.n2 bs s n s1) (hl : i64 last) (hn : 0 ≤ n ∧ n < 65536) : RdS Class.n2 (fun m => last + 1 + m ≤ 65535) bs s (IntKind.i64.wrap (last + IntKind.i64.wrap (1 + n)) - last - 1) s1 := by
  refine ⟨h.1, h.2.1, fun hs y q hy ho e => ?_⟩
  obtain ⟨h1, h2, h3⟩ := h.2.2 hs y q ho e
  unfold i64 at hl
  rw [wrap_i64 (n := 1 + n) (by omega) (by omega), wrap_i64 (by omega) (by omega)]
  exact ⟨by omega, h2, h3⟩
theorem rmap_ok (h g : Nat) (A : Option Addr) (c : Nat) (bs : List UInt8) (p : Po) (s : RSt) (w : World) (q : Ir w h g A c bs p s) (hO : OkPool p.l) (X L : Nat) (last : Int) (hX : w.heap[X]? = some (.cells #[.pointer (some ⟨h, 0, none⟩)] 36 (0, 0))) (hXn : ¬ RS h g X) (hL : w.heap[L]? = some (.cells #[zi last] 3 (0, 0))) (hLn : ∀ b, Iin h g A bs p b → b ≠ L) (hXL : X ≠ L) (hil : i64 last) (hm : bs.length ≤ 1000000) :
    Calls Tryz.prog 43 #[.pointer (some ⟨X, 0, none⟩), .pointer (some ⟨L, 0, none⟩)] w fun e w' => ∃ cs x s', e = .returned (.agg (List.toArray cs)) ∧ mpR w' (fun b => b < w.heap.size) cs x ∧ Rd (mapT p.l last) bs s x s' ∧ cMp x ≤ 6 * (s'.1 - s.1) + 16 ∧ On s s' ∧ Ir w' h g A c bs p s' ∧ Mod (fun b => RS h g b ∨ b = L) w w' ∧ w'.heap[L]? = some (.cells #[zi x.at_] 3 (0, 0)) ∧ i64 x.at_ := by
  refine enter ok Tryz.func43 rfl rfl rfl ?_
  obtain ⟨V, hV⟩ : ∃ V, V = w.heap.size := ⟨_, rfl⟩
  have hXl : X < w.heap.size := (Array.getElem?_eq_some_iff.1 hX).1
  have hLl : L < w.heap.size := (Array.getElem?_eq_some_iff.1 hL).1
  have hLr : ¬ RS h g L := fun e => by
    rcases e with e | e
    · exact hLn _ (.inr (.inl rfl)) e.symm
    · exact hLn _ (.inl rfl) e.symm
  refine seq_cut (σ := Unit) (fun _ => [(0, .pointer (some ⟨X, 0, none⟩)), (1, .pointer (some ⟨L, 0, none⟩)), (2, .pointer (some ⟨V, 0, none⟩))]) (fun _ w' => New w w' ∧ w'.heap[V]? = some (.cells #[zi 0, .slice none 0 0, .slice none 0 0] 97 (0, 0))) ?_ ?_
  rotate_left
  · intro K hK
    rw [hV] at hK
    exact hK () _ _ ⟨rfl, rfl, rfl, trivial⟩ ⟨New.alloc w _, heap_alloc_new w (.cells #[zi 0, .slice none 0 0, .slice none 0 0] 97)⟩
  rintro _ w0 fr0 ⟨n0, hV0⟩
  have q0 := q.new n0
  have hX0 := n0.blk hX
  have hL0 := n0.blk hL
  have hVn : ∀ b, Iin h g A bs p b → b ≠ V := fun b hb e => by have := q.lt hb; omega
  have hVr : ¬ RS h g V := fun e => by
    rcases e with e | e
    · exact hVn _ (.inr (.inl rfl)) e.symm
    · exact hVn _ (.inl rfl) e.symm
  have hVl : V < w0.heap.size := (Array.getElem?_eq_some_iff.1 hV0).1
  have hz0 := n0.size
  refine seq_cut (σ := Int) (fun _ => [(0, .pointer (some ⟨X, 0, none⟩)), (1, .pointer (some ⟨L, 0, none⟩)), (2, .pointer (some ⟨V, 0, none⟩))]) (fun n w' => ∃ s1, Rd Class.n1 bs s n s1 ∧ On s s1 ∧ Ir w' h g A c bs p s1 ∧ Mod (RS h g) w0 w') ?_ ?_
  rotate_left
  · intro K hK
    refine Exists.intro (some ⟨h, 0, none⟩) (And.intro (cell0 hX0) ?_)
    refine call_ (u_ok h g A c bs p s 1 Pool.w1 w0 q0) ?_
    rintro e w1 ⟨n, s1, rfl, r1, hb1, o1, q1, m1⟩
    refine ⟨_, rfl, ?_⟩
    exact hK n _ _ ⟨rfl, rfl, rfl, trivial⟩ ⟨s1, r1, o1, q1, m1⟩
  rintro m1' w1 fr1 ⟨s1, r1, o1, q1, m1⟩
  have hX1 := m1.blk hX0 hXn
  have hL1 := m1.blk hL0 hLr
  have hV1 := m1.blk hV0 hVr
  have hz1 := m1.size
  refine seq_cut (σ := Int) (fun _ => [(0, .pointer (some ⟨X, 0, none⟩)), (1, .pointer (some ⟨L, 0, none⟩)), (2, .pointer (some ⟨V, 0, none⟩))]) (fun n w' => ∃ s2, Rd Class.n2 bs s1 n s2 ∧ (0 ≤ n ∧ n < 65536) ∧ On s1 s2 ∧ Ir w' h g A c bs p s2 ∧ Mod (fun b => RS h g b ∨ b = L) w1 w' ∧ w'.heap[X]? = some (.cells #[.pointer (some ⟨h, 0, none⟩)] 36 (0, 0)) ∧ w'.heap[V]? = some (.cells #[zi 0, .slice none 0 0, .slice none 0 0] 97 (0, 0)) ∧ w'.heap[L]? = some (.cells #[zi (IntKind.i64.wrap (last + IntKind.i64.wrap (1 + n)))] 3 (0, 0))) ?_ ?_
  rotate_left
  · intro K hK
    have nd := New.drew w1
    refine draw_ (w := w1) ok (.q 0 (.q 1 (.e 2 (.q 3 (.q 4 (.e 5 .done)))))) [5] (fun w'' : World => w''.heap[L]? = some (.cells #[zi last] 3 (0, 0)) ∧ w''.heap[X]? = some (.cells #[.pointer (some ⟨h, 0, none⟩)] 36 (0, 0))) (by kernel_rfl) (by kernel_rfl) (by kernel_rfl) (by kernel_rfl) (by kernel_rfl) ⟨nd.blk hL1, nd.blk hX1⟩ ?_
    refine Exists.intro last (And.intro (fun w'' hw => cell0 hw.1) ?_)
    refine Exists.intro (some ⟨h, 0, none⟩) (And.intro (fun w'' hw => cell0 hw.2) ?_)
    refine call_ (u_ok h g A c bs p s1 2 Pool.w2 w1.drew (q1.new nd)) ?_
    rintro e wa ⟨na, sa, rfl, ra, hba, oa, qa, ma⟩
    refine ⟨_, rfl, ?_⟩
    have hLa := ma.blk (nd.blk hL1) hLr
    have hXa := ma.blk (nd.blk hX1) hXn
    refine Exists.intro (fun w'' : World => w''.heap[L]? = some (.cells #[zi last] 3 (0, 0)) ∧ w''.heap[X]? = some (.cells #[.pointer (some ⟨h, 0, none⟩)] 36 (0, 0))) ?_
    refine And.intro (fun _ h => h) ?_
    refine And.intro ⟨hLa, hXa⟩ ?_
    refine And.intro ⟨_, cell0 hLa⟩ (And.intro (fz0 hLa) (force_ ?_))
    refine st0 hLa (show (0 : Nat) < 1 by decide) ?_
    intro wb hLb mb sb
    exact hK na _ _ ⟨rfl, rfl, rfl, trivial⟩ ⟨sa, ra, hba, oa, qa.modN mb (fun b hb e => hLn b hb e), Mod.trans (Mod.trans nd.mod (ma.mono fun _ _ e => .inl e) fun _ _ e => e) mb fun _ _ e => .inr e, mb.blk hXa hXL, mb.blk (ma.blk (nd.blk hV1) hVr) (show ¬ V = L by omega), hLb⟩
  rintro n2 w2 fr2 ⟨s2, r2, hb2, o2, q2, m2, hX2, hV2, hL2⟩
  have rf := rd_far r2 hil hb2
  have hi2 := i64_wrap (last + IntKind.i64.wrap (1 + n2))
  generalize IntKind.i64.wrap (last + IntKind.i64.wrap (1 + n2)) = at2 at rf hi2 hL2
  have hz2 := m2.size
  refine seq_cut (σ := Nat) (fun E => [(0, .pointer (some ⟨X, 0, none⟩)), (1, .pointer (some ⟨L, 0, none⟩)), (2, .pointer (some ⟨V, 0, none⟩)), (3, .pointer (some ⟨E, 0, none⟩))]) (fun E w' => New w2 w' ∧ w2.heap.size ≤ E ∧ w'.heap[E]? = some (.cells #[zi at2, .slice none 0 0, .slice none 0 0] 97 (0, 0))) ?_ ?_
  rotate_left
  · intro K hK
    refine Exists.intro at2 (And.intro (cell0 hL2) ?_)
    refine And.intro rfl ?_
    refine storeNew (vs := [zi at2, .slice none 0 0, .slice none 0 0]) (arr := #[zi 0, .slice none 0 0, .slice none 0 0]) rfl (fun u hu => by
      simp only [List.mem_cons, List.not_mem_nil, or_false] at hu
      rcases hu with rfl | rfl | rfl <;> rfl) ?_
    intro w3 hb3 n3 s3
    exact hK w2.heap.size _ _ ⟨rfl, rfl, rfl, rfl, trivial⟩ ⟨n3, Nat.le_refl _, hb3⟩
  rintro E w3 fr3 ⟨n3, hEw, hE3⟩
  have q3 := q2.new n3
  have hX3 := n3.blk hX2
  have hV3 := n3.blk hV2
  have hL3 := n3.blk hL2
  have hE0 : ∀ b, Iin h g A bs p b → b ≠ E := fun b hb e => by have := q2.lt hb; omega
  have hEr : ¬ RS h g E := fun e => by
    rcases e with e | e
    · exact hE0 _ (.inr (.inl rfl)) e.symm
    · exact hE0 _ (.inl rfl) e.symm
  have hEl : E < w3.heap.size := (Array.getElem?_eq_some_iff.1 hE3).1
  have hz3 := n3.size
  have hrsl : ∀ b, RS h g b → b < w.heap.size := fun b e => q.lt (by rcases e with e | e; exact .inr (.inl e); exact .inl e)
  -- its locals
  refine seq_cut (σ := (Option Addr × Nat) × List Ty) (fun _ => [(0, .pointer (some ⟨X, 0, none⟩)), (1, .pointer (some ⟨L, 0, none⟩)), (2, .pointer (some ⟨V, 0, none⟩)), (3, .pointer (some ⟨E, 0, none⟩))]) (fun t w' => ∃ s4, Rd (lcsT p.l) bs s2 t.2 s4 ∧ t.2.length ≤ 2 * ((s4.1 - s2.1) + 1) ∧ On s2 s4 ∧ LRep tyR w' (fun b => b < w3.heap.size) (.slice t.1.1 t.2.length t.1.2) t.2 ∧ Ir w' h g A c bs p s4 ∧ Mod (fun b => RS h g b ∨ b = E) w3 w' ∧ w'.heap[X]? = some (.cells #[.pointer (some ⟨h, 0, none⟩)] 36 (0, 0)) ∧ w'.heap[L]? = some (.cells #[zi at2] 3 (0, 0)) ∧ w'.heap[V]? = some (.cells #[zi 0, .slice none 0 0, .slice none 0 0] 97 (0, 0)) ∧ w'.heap[E]? = some (.cells #[zi at2, .slice t.1.1 t.2.length t.1.2, .slice none 0 0] 97 (0, 0))) ?_ ?_
  rotate_left
  · intro K hK
    refine Exists.intro (some ⟨h, 0, none⟩) (And.intro (cell0 hX3) ?_)
    refine call_ (rlocals_ok h g A c bs p s2 w3 q3 hO hm) ?_
    rintro e wa ⟨v, ys, sa, rfl, la, ra, na, oa, qa, ma⟩
    obtain ⟨Ay, cy, rfl, _⟩ := la.get tyOk (by decide)
    refine ⟨_, rfl, ?_⟩
    have hEa := ma.blk hE3 hEr
    refine And.intro ⟨_, cellB hEa rfl⟩ (And.intro (fzB hEa _) (force_ ?_))
    refine stK hEa (show (1 : Nat) < 3 by decide) ?_
    intro wb hEb mb sb
    exact hK ((Ay, cy), ys) _ _ ⟨rfl, rfl, rfl, rfl, trivial⟩ ⟨sa, ra, na, oa, LRep.mod tyOk (by decide) la (mb.mono fun b _ e => by omega), qa.modN mb (fun b hb e => hE0 b hb e), Mod.trans (ma.mono fun _ _ e => .inl e) mb fun _ _ e => .inr e, mb.blk (ma.blk hX3 hXn) (show ¬ X = E by omega), mb.blk (ma.blk hL3 hLr) (show ¬ L = E by omega), mb.blk (ma.blk hV3 hVr) (show ¬ V = E by omega), hEb⟩
  rintro ⟨⟨Ay, cy⟩, ys⟩ w4 fr4 ⟨s4, r4, hn4, o4, l4, q4, m4, hX4, hL4, hV4, hE4⟩
  dsimp only at r4 hn4 l4 hE4
  have hz4 := m4.size
  -- its stack
  refine seq_cut (σ := (Option Addr × Nat) × List Ty) (fun _ => [(0, .pointer (some ⟨X, 0, none⟩)), (1, .pointer (some ⟨L, 0, none⟩)), (2, .pointer (some ⟨V, 0, none⟩)), (3, .pointer (some ⟨E, 0, none⟩))]) (fun t w' => ∃ s5, Rd (stkT p.l) bs s4 t.2 s5 ∧ t.2.length ≤ (s5.1 - s4.1) + 1 ∧ On s4 s5 ∧ LRep tyR w' (fun b => b < w3.heap.size) (.slice t.1.1 t.2.length t.1.2) t.2 ∧ Ir w' h g A c bs p s5 ∧ Mod (fun b => RS h g b ∨ b = E) w4 w' ∧ w'.heap[L]? = some (.cells #[zi at2] 3 (0, 0)) ∧ w'.heap[V]? = some (.cells #[zi 0, .slice none 0 0, .slice none 0 0] 97 (0, 0)) ∧ w'.heap[E]? = some (.cells #[zi at2, .slice Ay ys.length cy, .slice t.1.1 t.2.length t.1.2] 97 (0, 0))) ?_ ?_
  rotate_left
  · intro K hK
    refine Exists.intro (some ⟨h, 0, none⟩) (And.intro (cell0 hX4) ?_)
    refine Exists.intro (some ⟨h, 0, none⟩) (And.intro (cell0 hX4) ?_)
    refine call_ (members_ty h g A c bs p s4 w4 q4 hO hm) ?_
    rintro e wa ⟨v, zs, sa, rfl, la, ra, _, na, oa, qa, ma⟩
    obtain ⟨Az, cz, rfl, _⟩ := la.get tyOk (by decide)
    refine ⟨_, rfl, ?_⟩
    have hEa := ma.blk hE4 hEr
    refine And.intro ⟨_, cellB hEa rfl⟩ (And.intro (fzB hEa _) (force_ ?_))
    refine stK hEa (show (2 : Nat) < 3 by decide) ?_
    intro wb hEb mb sb
    exact hK ((Az, cz), zs) _ _ ⟨rfl, rfl, rfl, rfl, trivial⟩ ⟨sa, ra, na, oa, LRep.weak tyOk (LRep.mod tyOk (by decide) la (mb.mono fun b _ e => by omega)) (fun b _ e => by omega), qa.modN mb (fun b hb e => hE0 b hb e), Mod.trans (ma.mono fun _ _ e => .inl e) mb fun _ _ e => .inr e, mb.blk (ma.blk hL4 hLr) (show ¬ L = E by omega), mb.blk (ma.blk hV4 hVr) (show ¬ V = E by omega), hEb⟩
  rintro ⟨⟨Az, cz⟩, zs⟩ w5 fr5 ⟨s5, r5, hn5, o5, l5, q5, m5, hL5, hV5, hE5⟩
  dsimp only at r5 hn5 l5 hE5
  have hz5 := m5.size
  have l45 := LRep.mod tyOk (by decide) l4 (m5.mono fun b _ e => e.elim (fun e => by have := hrsl b e; omega) (fun e => by omega))
  have hone : ∀ u ∈ [zi at2, Value.slice Ay ys.length cy, .slice Az zs.length cz], u.oneCell' = true := fun u hu => by
    simp only [List.mem_cons, List.not_mem_nil, or_false] at hu
    rcases hu with rfl | rfl | rfl <;> rfl
  refine loadN_row (vs := [zi at2, .slice Ay ys.length cy, .slice Az zs.length cz]) (rowB hE5) rfl ?_
  refine And.intro rfl ?_
  refine storeN_all (vs := [zi at2, .slice Ay ys.length cy, .slice Az zs.length cz]) hV5 rfl hone ?_
  intro w6 hb6 m6 s6
  refine loadN_row (vs := [zi at2, .slice Ay ys.length cy, .slice Az zs.length cz]) (rowB hb6) rfl ?_
  have lf : ∀ {v : Value} {xs : List Ty}, LRep tyR w5 (fun b => b < w3.heap.size) v xs → LRep tyR w6 (fun b => b < w.heap.size) v xs := fun l => LRep.weak tyOk (LRep.mod tyOk (by decide) l (m6.mono fun b _ e => by omega)) fun b _ e => by omega
  refine ⟨_, ⟨at2, ys, zs⟩, s5, rfl, ⟨_, _, rfl, lf l45, lf l5⟩, ?_, ?_, (o1.trans (o2.trans (o4.trans o5))), q5.modN m6 (fun b hb e => hVn b hb e), ?_, m6.blk hL5 (show ¬ L = V by omega), hi2⟩
  · exact RdS.byP (f := fun m : Mp => (255, m.at_ - last - 1, m.locals, m.stack)) (y := ⟨at2, ys, zs⟩) (RdS.seq (RdS.num1 (m := 255) r1) (rf.seq (RdS.seq (r4.S fun _ => True) (r5.S fun _ => True)))) (fun z hz => ⟨rfl, by show last + 1 + (z.at_ - last - 1) ≤ 65535; omega, trivial, trivial⟩) (fun z e => by
      cases z
      simp only [Prod.mk.injEq] at e
      simp only [Mp.mk.injEq]
      exact ⟨by omega, e.2.2.1, e.2.2.2⟩)
  · have a1 := o1.1
    have a2 := o2.1
    have a4 := o4.1
    have a5 := o5.1
    show 7 + 3 * ys.length + 3 * zs.length ≤ _
    omega
  · have b1 : Mod (fun b => RS h g b ∨ b = L) w w1 := Mod.trans n0.mod (m1.mono fun _ _ e => .inl e) fun _ _ e => e
    have b2 : Mod (fun b => RS h g b ∨ b = L) w w3 := both (both b1 m2) n3.mod
    have b4 : Mod (fun b => RS h g b ∨ b = L) w w4 := Mod.trans b2 m4 fun b hb e => e.elim .inl fun e => by omega
    have b5 : Mod (fun b => RS h g b ∨ b = L) w w5 := Mod.trans b4 m5 fun b hb e => e.elim .inl fun e => by omega
    exact Mod.trans b5 m6 fun b hb e => by omega

theorem members_map (h g : Nat) (A : Option Addr) (c : Nat) (bs : List UInt8) (p : Po) (s : RSt) (w : World) (q : Ir w h g A c bs p s) (hO : OkPool p.l) (X L : Nat) (hX : w.heap[X]? = some (.cells #[.pointer (some ⟨h, 0, none⟩)] 36 (0, 0))) (hXn : ¬ RS h g X) (hL : w.heap[L]? = some (.cells #[zi (-1)] 3 (0, 0))) (hLn : ∀ b, Iin h g A bs p b → b ≠ L) (hXL : X ≠ L)  (hm : bs.length ≤ 1000000) :
    Calls Tryz.prog 42 #[.pointer (some ⟨h, 0, none⟩), .func (.func 43) #[] #[.pointer (some ⟨X, 0, none⟩), .pointer (some ⟨L, 0, none⟩)]] w fun e w' => ∃ v xs s', e = .returned v ∧ LRep mpR w' (fun b => b < w.heap.size) v xs ∧ Rd (mapsT p.l) bs s xs s' ∧ csum cMp xs ≤ (6 + 16) * (s'.1 - s.1) + 16 ∧ xs.length ≤ (s'.1 - s.1) + 1 ∧ On s s' ∧ Ir w' h g A c bs p s' ∧ Mod (fun b => RS h g b ∨ b = L) w w' := by
  refine enter ok Tryz.func42 rfl rfl rfl ?_
  have low : ∀ b, (fun b => RS h g b ∨ b = L) b → b < w.heap.size := fun b e => by
    rcases e with e | e
    · exact q.lt (by rcases e with e | e; exact .inr (.inl e); exact .inl e)
    · rw [e]; exact (Array.getElem?_eq_some_iff.1 hL).1
  have hXw : X < w.heap.size := (Array.getElem?_eq_some_iff.1 hX).1
  have hLw : L < w.heap.size := (Array.getElem?_eq_some_iff.1 hL).1
  have hLr : ¬ RS h g L := fun e => by
    rcases e with e | e
    · exact hLn _ (.inr (.inl rfl)) e.symm
    · exact hLn _ (.inl rfl) e.symm
  refine seq_assign ?_
  refine seq_assign ?_
  refine seq_cut (σ := (Option Addr × Nat) × List (List Value × Mp)) (fun t => [(5, .slice t.1.1 t.2.length t.1.2)]) (fun t w' => ∃ s', LRep mpR w' (fun b => b < w.heap.size) (.slice t.1.1 t.2.length t.1.2) (t.2.map (·.2)) ∧ Rd (mapsT p.l) bs s (t.2.map (·.2)) s' ∧ csum cMp (t.2.map (·.2)) ≤ (6 + 16) * (s'.1 - s.1) + 16 ∧ (t.2.map (·.2)).length ≤ (s'.1 - s.1) + 1 ∧ On s s' ∧ Ir w' h g A c bs p s' ∧ Mod (fun b => RS h g b ∨ b = L) w w') ?_ ?_
  · rintro t w1 fr1 ⟨s', h1, h2, h3, h4, h5, h6, h8⟩
    exact ⟨_, _, s', rfl, h1, h2, h3, h4, h5, h6, h8⟩
  intro K hK
  refine seq_cut (σ := Int) (fun n => [(0, .pointer (some ⟨h, 0, none⟩)), (1, .func (.func 43) #[] #[.pointer (some ⟨X, 0, none⟩), .pointer (some ⟨L, 0, none⟩)]), (5, .slice none 0 0), (6, zi n)]) (fun n w' => ∃ s1, Rd n2 bs s n s1 ∧ (0 ≤ n ∧ n < 65536) ∧ On s s1 ∧ Ir w' h g A c bs p s1 ∧ Mod (fun b => RS h g b ∨ b = L) w w' ∧ Mod (RS h g) w w') ?_ ?_
  rotate_left
  · intro K2 hK2
    refine call_ (u_ok h g A c bs p s 2 Pool.w2 w q) ?_
    rintro e w1 ⟨n, s1, rfl, rd1, hb, o1, p1, m1⟩
    refine ⟨_, rfl, ?_⟩
    exact hK2 n _ _ ⟨rfl, rfl, rfl, rfl, trivial⟩ ⟨s1, rd1, hb, o1, p1, m1.mono fun b hb e => .inl e, m1⟩
  rintro n w1 fr1 ⟨s1, rd1, hn, o1, p1, m1, m1'⟩
  refine den_loop (σ := ((Option Addr × Nat) × List (List Value × Mp)) × Int × RSt × Int) (fun t => [(0, .pointer (some ⟨h, 0, none⟩)), (1, .func (.func 43) #[] #[.pointer (some ⟨X, 0, none⟩), .pointer (some ⟨L, 0, none⟩)]), (5, .slice t.1.1.1 t.1.2.length t.1.1.2), (6, zi t.2.1)])
    (fun m t wl => m = t.2.1.toNat ∧ MRd p.l bs s (t.1.2.map (·.2)) t.2.1.toNat t.2.2.2 t.2.2.1 ∧ wl.heap[X]? = some (.cells #[.pointer (some ⟨h, 0, none⟩)] 36 (0, 0)) ∧ wl.heap[L]? = some (.cells #[zi t.2.2.2] 3 (0, 0)) ∧ i64 t.2.2.2 ∧ t.2.1.toNat + t.1.2.length ≤ 65536 ∧ t.2.1 ≤ 65536 ∧ On s t.2.2.1 ∧ Ir wl h g A c bs p t.2.2.1 ∧ Mod (fun b => RS h g b ∨ b = L) w wl ∧ LCo cMp 6 16 s (t.1.2.map (·.2)) t.2.2.1 ∧ wl.ownsRow w.heap.size 97 3 (.slice t.1.1.1 t.1.2.length t.1.1.2) t.1.2.length (cellsOf t.1.2) ∧
      (∀ y ∈ t.1.2, mpR wl (fun b => b < w.heap.size ∨ some b = (Value.slice t.1.1.1 t.1.2.length t.1.1.2).ownBlock) y.1 y.2)) n.toNat (((none, 0), []), n, s1, -1)
    ⟨rfl, rfl, rfl, rfl, trivial⟩ ⟨rfl, MRd.start rd1, m1'.blk hX hXn, m1'.blk hL hLr, by unfold i64; dsimp only; omega, by simp; omega, by dsimp only; omega, o1, p1, m1, LCo.start, ⟨rfl, .inl ⟨rfl, rfl⟩⟩, (fun _ h => (by cases h))⟩ ?_
  rintro m ⟨⟨⟨Al, cl⟩, ts⟩, z, s2, last⟩ wl frl ⟨rfl, hinv, hXl, hLl, hil, hcnt, hz65, on2, pl, kl, hco, own, hts⟩
  dsimp only at hinv hLl hil hcnt hz65 on2 pl kl hco own hts
  have hown := fun b (e : (Value.slice Al ts.length cl).ownBlock = some b) => own.lt b e
  have klz := kl.size
  have fin : (s2.2 = false → z.toNat = 0) → id (∃ s', LRep mpR wl (fun b => b < w.heap.size) (.slice Al ts.length cl) (ts.map (·.2)) ∧ Rd (mapsT p.l) bs s (ts.map (·.2)) s' ∧ csum cMp (ts.map (·.2)) ≤ (6 + 16) * (s'.1 - s.1) + 16 ∧ (ts.map (·.2)).length ≤ (s'.1 - s.1) + 1 ∧ On s s' ∧ Ir wl h g A c bs p s' ∧ Mod (fun b => RS h g b ∨ b = L) w wl) := fun hz => by
    obtain ⟨A', c', e', h5, h6, row, ho⟩ := own_slice own
    cases e'
    exact ⟨s2, ⟨Al, cl, ts, by rw [List.length_map], rfl, by rw [List.length_map]; exact h5, h6, by rw [List.length_map]; omega, row, fun a ha _ => ⟨(ho a ha).2.1, by have := (ho a ha).1; omega⟩, fun t ht => mpOk.weak (hts t ht) fun b _ hb => .inl hb⟩, hinv.done hz, hco.le.1, hco.le.2, on2, pl, kl⟩
  refine if_p (fun hlt => ?_) (fun hge => ?_)
  · replace hlt : 0 < z := hlt
    refine Exists.intro s2.2 (And.intro (cellB pl.blk rfl) ?_)
    refine if_ (fun hz => ?_) (fun hz => ?_)
    · replace hz : s2.2 = false := by simpa using hz
      obtain ⟨k, hk⟩ : ∃ k, z.toNat = k + 1 := ⟨z.toNat - 1, by omega⟩
      rw [hk] at hinv
      have hk' : (z - 1).toNat = k := by omega
      refine call_ (rmap_ok h g A c bs p s2 wl pl hO X L last hXl hXn hLl hLn hXL hil hm) ?_
      rintro e w5 ⟨cs, x, s5, he, hx, rd5, hcost5, hprog5, p5, m5, hL5, hi5⟩
      subst he
      have hx0 := hx
      obtain ⟨_, _, rfl, lx1, lx2⟩ := hx
      obtain ⟨Ax1, cx1, rfl, _⟩ := lx1.get tyOk (by decide)
      obtain ⟨Ax2, cx2, rfl, _⟩ := lx2.get tyOk (by decide)
      refine ⟨_, rfl, ?_⟩
      have m5z := m5.size
      have hnR : ∀ b, w.heap.size ≤ b → ¬ (fun b => RS h g b ∨ b = L) b := fun b hb e => by have := low b e; omega
      have own5 := own_mod m5 own (fun b hb => hnR b (hown b hb).1)
      have n6 := New.alloc w5 (.cells [zi x.at_, .slice Ax1 x.locals.length cx1, .slice Ax2 x.stack.length cx2].toArray 97)
      refine append2_ ok rfl rfl rfl rfl (own_new n6 own5) rfl rfl (row_alloc w5 [zi x.at_, .slice Ax1 x.locals.length cx1, .slice Ax2 x.stack.length cx2] _ _) rfl (mpOk.one hx0) (by decide) rfl (by show (ts.length + 1) * 56 ≤ _; omega) (by omega) (Nat.le_trans (by omega) n6.size) ?_
      intro A7 c7 w7 own7 mod7 st7
      have k57 : Mod (fun b => some b = (Value.slice Al ts.length cl).ownBlock) w5 w7 := Mod.trans n6.mod mod7 fun _ _ e => e
      have hl : (ts ++ [([zi x.at_, .slice Ax1 x.locals.length cx1, .slice Ax2 x.stack.length cx2], x)]).length = ts.length + 1 := by simp
      have st : ∀ b, some b = (Value.slice A7 (ts.length + 1) c7).ownBlock → some b = (Value.slice Al ts.length cl).ownBlock ∨ w5.heap.size ≤ b := fun b e => by
        rcases st7 b e.symm with e | e
        · exact .inl e.symm
        · exact .inr (Nat.le_trans n6.size e)
      have hnew := mem_stepS mpOk hts hx0 m5 low k57 klz (fun b e => hown b e.symm) st
      have pow := q.loc p5 k57 fun b e => (hown _ e.symm).1
      refine ⟨(z - 1).toNat, (((A7, c7), ts ++ [([zi x.at_, .slice Ax1 x.locals.length cx1, .slice Ax2 x.stack.length cx2], x)]), z - 1, s5, x.at_), (by dsimp only; omega), ⟨rfl, rfl, (show Value.slice A7 (ts.length + 1) c7 = .slice A7 (ts ++ [([zi x.at_, .slice Ax1 x.locals.length cx1, .slice Ax2 x.stack.length cx2], x)]).length c7 by rw [hl]), (show zi (IntKind.i64.wrap (z - 1)) = zi (z - 1) by rw [wrap_i64 (by omega) (by omega)]), trivial⟩, rfl, ?_, k57.blk (m5.blk hXl (fun e => e.elim hXn hXL)) (fun e => by have := (hown _ e.symm).1; omega), k57.blk hL5 (fun e => by have := (hown _ e.symm).1; omega), hi5, ?_, by dsimp only; omega, on2.trans hprog5, pow, ?_, ?_, ?_, ?_⟩
      · dsimp only
        rw [hk', List.map_append]
        exact hinv.step rd5
      · dsimp only
        rw [hl]
        omega
      · exact Mod.trans (both kl m5) k57 fun b hb e => by have := hown b e.symm; omega
      · dsimp only
        rw [List.map_append]
        exact hco.step hinv.1 hz hcost5 hprog5
      · dsimp only
        rw [hl, cellsOf_snoc]
        exact own7
      · dsimp only
        rw [hl]
        exact hnew
    · replace hz : s2.2 = true := by simpa using hz
      exact hK ((Al, cl), ts) _ _ ⟨rfl, trivial⟩ (fin fun h => by rw [hz] at h; cases h)
  · replace hge : ¬ 0 < z := hge
    exact hK ((Al, cl), ts) _ _ ⟨rfl, trivial⟩ (fin fun _ => by omega)

end Go.Proofs.YtdcaafldnbcdkaaGreatDoor.Class

/-! ### KRead6 -/
namespace Go.Proofs.YtdcaafldnbcdkaaGreatDoor.Class
open Go Go.Proofs.YtdcaafldnbcdkaaGreatDoor Go.Proofs.YtdcaafldnbcdkaaGreatDoor.Eng Go.Proofs Go.Proofs.YtdcaafldnbcdkaaGreatDoor.Word Go.Proofs.YtdcaafldnbcdkaaGreatDoor.Fmt
open Go.Proofs.YtdcaafldnbcdkaaGreatDoor.Pool (rd_modN rd_low RS Ent at_ poolF strV entC entV EntOk Pl OkPool both own_low tagAt)
set_option maxRecDepth 10000

theorem ones5 (a b : Int) (A1 A2 A3 : Option Addr) (n1 c1 n2 c2 n3 c3 : Nat) : ∀ u ∈ [zi a, zi b, Value.slice A1 n1 c1, Value.slice A2 n2 c2, Value.slice A3 n3 c3], u.oneCell' = true := fun u hu => by
  simp only [List.mem_cons, List.not_mem_nil, or_false] at hu
  rcases hu with rfl | rfl | rfl | rfl | rfl <;> rfl
theorem one5 (a b : Int) : ∀ u ∈ [zi a, zi b, Value.slice none 0 0, Value.slice none 0 0, Value.slice none 0 0], u.oneCell' = true := fun u hu => by
  simp only [List.mem_cons, List.not_mem_nil, or_false] at hu
  rcases hu with rfl | rfl | rfl | rfl | rfl <;> rfl
theorem Rd.blobN {bs : List UInt8} {s s1 : RSt} {n : Int} (h : Rd Class.n4 bs s n s1) (hb : s1.2 = true) (x : List UInt8) : Rd blobT bs s x s1 := by
  refine ⟨h.1, h.2.1, fun hs y q ho e => ?_⟩
  have e : bs.drop s.1 = enc 4 (y.length : Int) ++ (y ++ q) := by rw [e]; exact List.append_assoc ..
  obtain ⟨_, a2, _⟩ := h.2.2 hs _ _ ho e
  rw [hb] at a2
  cases a2
theorem u8_cells : ∀ l : List UInt8, cellsOf (l.map fun b => ([Value.int .u8 (b.toNat : Int)], b)) = bvs l
  | [] => rfl
  | b :: r => by
    have ih := u8_cells r
    show [Value.int .u8 (b.toNat : Int)] ++ cellsOf (r.map fun b => ([Value.int .u8 (b.toNat : Int)], b)) = bvs (b :: r)
    rw [ih]
    rfl
theorem bytes_rep {w : World} {b0 : Nat} {S : Nat → Prop} {v : Value} {l : List UInt8} (own : w.ownsRow b0 5 1 v l.length (bvs l)) (hl : l.length ≤ 140737488355328) (hS : ∀ b, b0 ≤ b → ¬ S b) : LRep u8R w S v l := by
  obtain ⟨A, c, rfl, h5, h6, row, ho⟩ := own_slice own
  refine ⟨A, c, l.map fun b => ([.int .u8 (b.toNat : Int)], b), rfl, by rw [List.map_map]; exact List.map_id _, h5, h6, hl, ?_, fun a ha _ => ⟨(ho a ha).2.1, hS _ (ho a ha).1⟩, fun t ht => ?_⟩
  · show Row w A (cellsOf _)
    rw [u8_cells]
    exact row
  · obtain ⟨y, _, rfl⟩ := List.mem_map.1 ht
    rfl
theorem rcode_ok (h g : Nat) (A : Option Addr) (c : Nat) (bs : List UInt8) (p : Po) (s : RSt) (w : World) (q : Ir w h g A c bs p s) (hO : OkPool p.l) (hm : bs.length ≤ 1000000) :
    Calls Tryz.prog 20 #[.pointer (some ⟨h, 0, none⟩)] w fun e w' => ∃ cs x s', e = .returned (.agg (List.toArray cs)) ∧ codR w' (fun b => b < w.heap.size) cs x ∧ Rd (partT (codT p.l)) bs s x s' ∧ cCod x ≤ 22 * (s'.1 - s.1) + 44 ∧ On s s' ∧ Ir w' h g A c bs p s' ∧ Mod (RS h g) w w' := by
  refine enter ok Tryz.func20 rfl rfl rfl ?_
  refine seq_cut (σ := Nat × Nat) (fun t => [(1, .pointer (some ⟨t.1, 0, none⟩)), (2, .pointer (some ⟨t.2, 0, none⟩))]) (fun t w' => New w w' ∧ w.heap.size ≤ t.1 ∧ w.heap.size ≤ t.2 ∧ t.1 ≠ t.2 ∧ w'.heap[t.1]? = some (.cells #[.pointer (some ⟨h, 0, none⟩)] 36 (0, 0)) ∧ w'.heap[t.2]? = some (.cells #[zi 0, zi 0, .slice none 0 0, .slice none 0 0, .slice none 0 0] 56 (0, 0))) ?_ ?_
  rotate_left
  · intro K hK
    have n1 := New.alloc w (.cells #[.pointer (some ⟨h, 0, none⟩)] 36)
    have h1 := heap_alloc_new w (.cells #[.pointer (some ⟨h, 0, none⟩)] 36)
    have n2 := New.alloc (w.alloc (.cells #[.pointer (some ⟨h, 0, none⟩)] 36)) (.cells #[zi 0, zi 0, .slice none 0 0, .slice none 0 0, .slice none 0 0] 56)
    have h2 := heap_alloc_new (w.alloc (.cells #[.pointer (some ⟨h, 0, none⟩)] 36)) (.cells #[zi 0, zi 0, .slice none 0 0, .slice none 0 0, .slice none 0 0] 56)
    have z1 : (w.alloc (.cells #[.pointer (some ⟨h, 0, none⟩)] 36)).heap.size = w.heap.size + 1 := by simp
    exact hK (w.heap.size, (w.alloc (.cells #[.pointer (some ⟨h, 0, none⟩)] 36)).heap.size) _ _ ⟨rfl, rfl, trivial⟩ ⟨n1.trans n2, Nat.le_refl _, by dsimp only; omega, by dsimp only; omega, n2.blk h1, h2⟩
  rintro ⟨X, V⟩ w0 fr0 ⟨n0, hXw, hVw, hXV, hX0, hV0⟩
  dsimp only at hXw hVw hXV hX0 hV0
  have q0 := q.new n0
  have hrsl : ∀ b, RS h g b → b < w.heap.size := fun b e => q.lt (by rcases e with e | e; exact .inr (.inl e); exact .inl e)
  have hXn : ¬ RS h g X := fun e => by have := hrsl _ e; omega
  have hVr : ¬ RS h g V := fun e => by have := hrsl _ e; omega
  have hVn : ∀ b, Iin h g A bs p b → b ≠ V := fun b hb e => by have := q.lt hb; omega
  have hXl : X < w0.heap.size := (Array.getElem?_eq_some_iff.1 hX0).1
  have hVl : V < w0.heap.size := (Array.getElem?_eq_some_iff.1 hV0).1
  have hz0 := n0.size
  refine seq_cut (σ := Unit) (fun _ => [(1, .pointer (some ⟨X, 0, none⟩)), (2, .pointer (some ⟨V, 0, none⟩))]) (fun _ w' => ∃ n s1, Rd Class.n4 bs s n s1 ∧ On s s1 ∧ Ir w' h g A c bs p s1 ∧ Mod (RS h g) w0 w') ?_ ?_
  rotate_left
  · intro K hK
    refine Exists.intro (some ⟨h, 0, none⟩) (And.intro (cell0 hX0) ?_)
    refine call_ (u_ok h g A c bs p s 4 Pool.w4 w0 q0) ?_
    rintro e w1 ⟨n, s1, rfl, r1, hb1, o1, q1, m1⟩
    refine ⟨_, rfl, ?_⟩
    exact hK () _ _ ⟨rfl, rfl, trivial⟩ ⟨n, s1, r1, o1, q1, m1⟩
  rintro _ w1 fr1 ⟨n0', s1, r1, o1, q1, m1⟩
  have hX1 := m1.blk hX0 hXn
  have hV1 := m1.blk hV0 hVr
  have hz1 := m1.size
  have hrs1 : ∀ b, RS h g b → b < w1.heap.size := fun b e => by have := hrsl b e; omega
  refine seq_cut (σ := Nat × Int × Int) (fun t => [(1, .pointer (some ⟨X, 0, none⟩)), (2, .pointer (some ⟨V, 0, none⟩)), (3, .pointer (some ⟨t.1, 0, none⟩))]) (fun t w' => ∃ s2 s3, Rd Class.n2 bs s1 t.2.1 s2 ∧ Rd Class.n2 bs s2 t.2.2 s3 ∧ On s1 s2 ∧ On s2 s3 ∧ Ir w' h g A c bs p s3 ∧ Mod (RS h g) w1 w' ∧ w1.heap.size ≤ t.1 ∧ w'.heap[X]? = some (.cells #[.pointer (some ⟨h, 0, none⟩)] 36 (0, 0)) ∧ w'.heap[V]? = some (.cells #[zi 0, zi 0, .slice none 0 0, .slice none 0 0, .slice none 0 0] 56 (0, 0)) ∧ w'.heap[t.1]? = some (.cells #[zi t.2.1, zi t.2.2, .slice none 0 0, .slice none 0 0, .slice none 0 0] 56 (0, 0))) ?_ ?_
  rotate_left
  · intro K hK
    have nd := New.drew w1
    refine draw_ (w := w1) ok (.q 0 (.q 2 (.br (.e 1 (.br (.e 3 (.q 4 (.e 5 (.e 6 .done)))) (.e 5 (.e 3 (.q 4 (.e 6 .done)))))) (.e 5 (.e 1 (.e 3 (.q 4 (.e 6 .done)))))))) [6] (fun w'' : World => w''.heap[X]? = some (.cells #[.pointer (some ⟨h, 0, none⟩)] 36 (0, 0))) (by kernel_rfl) (by kernel_rfl) (by kernel_rfl) (by kernel_rfl) (by kernel_rfl) (nd.blk hX1) ?_
    refine Exists.intro (some ⟨h, 0, none⟩) (And.intro (fun w'' hw => cell0 hw) ?_)
    refine Exists.intro (some ⟨h, 0, none⟩) (And.intro (fun w'' hw => cell0 hw) ?_)
    refine And.intro ?_ ?_
    · refine call_ (u_ok h g A c bs p s1 2 Pool.w2 w1.drew (q1.new nd)) ?_
      rintro e wa ⟨na, sa, rfl, ra, hba, oa, qa, ma⟩
      refine ⟨_, rfl, ?_⟩
      have hXa := ma.blk (nd.blk hX1) hXn
      refine Exists.intro (fun w'' : World => w''.heap[X]? = some (.cells #[.pointer (some ⟨h, 0, none⟩)] 36 (0, 0))) ?_
      refine And.intro (fun _ h => h) ?_
      refine And.intro (hXa) ?_
      refine And.intro ?_ ?_
      ·
        refine call_ (u_ok h g A c bs p sa 2 Pool.w2 wa qa) ?_
        rintro e wb ⟨nb, sb, rfl, rb, hbb, ob, qb, mb⟩
        refine ⟨_, rfl, ?_⟩
        have hXb := mb.blk hXa hXn
        refine Exists.intro (fun w'' : World => w''.heap[X]? = some (.cells #[.pointer (some ⟨h, 0, none⟩)] 36 (0, 0))) ?_
        refine And.intro (fun _ h => h) ?_
        refine And.intro (hXb) ?_
        have nA := New.alloc wb (.cells #[zi 0, zi 0, .slice none 0 0, .slice none 0 0, .slice none 0 0] 56)
        have hA := heap_alloc_new wb (.cells #[zi 0, zi 0, .slice none 0 0, .slice none 0 0, .slice none 0 0] 56)
        refine Exists.intro (fun w'' : World => w''.heap[X]? = some (.cells #[.pointer (some ⟨h, 0, none⟩)] 36 (0, 0))) ?_
        refine And.intro (fun _ h => h) ?_
        refine And.intro (nA.blk hXb) ?_
        have zb : w1.heap.size ≤ wb.heap.size := Nat.le_trans nd.size (Nat.le_trans ma.size mb.size)
        refine And.intro rfl ?_
        refine storeN_all (vs := [zi na, zi nb, .slice none 0 0, .slice none 0 0, .slice none 0 0]) hA rfl (one5 na nb) ?_
        intro wc hEc mc sc
        exact hK (wb.heap.size, na, nb) _ _ ⟨rfl, rfl, rfl, trivial⟩ ⟨sa, sb, ra, rb, oa, ob, (qb.new nA).modN mc (fun b hb e => by have h1 := q1.lt hb; have h2 : w1.heap.size ≤ wb.heap.size := zb; omega), Mod.trans (Mod.trans nd.mod (both (both ma mb) nA.mod) fun _ _ e => e) mc fun b hb e => by have h2 : w1.heap.size ≤ wb.heap.size := zb; omega, zb, mc.blk (nA.blk hXb) (by have h2 : w1.heap.size ≤ wb.heap.size := zb; omega), mc.blk (nA.blk (mb.blk (ma.blk (nd.blk hV1) hVr) hVr)) (by have h2 : w1.heap.size ≤ wb.heap.size := zb; omega), hEc⟩
      ·
        have nA := New.alloc wa (.cells #[zi 0, zi 0, .slice none 0 0, .slice none 0 0, .slice none 0 0] 56)
        have hA := heap_alloc_new wa (.cells #[zi 0, zi 0, .slice none 0 0, .slice none 0 0, .slice none 0 0] 56)
        refine Exists.intro (fun w'' : World => w''.heap[X]? = some (.cells #[.pointer (some ⟨h, 0, none⟩)] 36 (0, 0))) ?_
        refine And.intro (fun _ h => h) ?_
        refine And.intro (nA.blk hXa) ?_
        refine call_ (u_ok h g A c bs p sa 2 Pool.w2 (wa.alloc (.cells #[zi 0, zi 0, .slice none 0 0, .slice none 0 0, .slice none 0 0] 56)) (qa.new nA)) ?_
        rintro e wb ⟨nb, sb, rfl, rb, hbb, ob, qb, mb⟩
        refine ⟨_, rfl, ?_⟩
        have hXb := mb.blk (nA.blk hXa) hXn
        refine Exists.intro (fun w'' : World => w''.heap[X]? = some (.cells #[.pointer (some ⟨h, 0, none⟩)] 36 (0, 0))) ?_
        refine And.intro (fun _ h => h) ?_
        refine And.intro (hXb) ?_
        have za : w1.heap.size ≤ wa.heap.size := Nat.le_trans nd.size ma.size
        have hEn : ¬ RS h g wa.heap.size := fun e => by have := hrs1 _ e; omega
        refine And.intro rfl ?_
        refine storeN_all (vs := [zi na, zi nb, .slice none 0 0, .slice none 0 0, .slice none 0 0]) (mb.blk hA hEn) rfl (one5 na nb) ?_
        intro wc hEc mc sc
        exact hK (wa.heap.size, na, nb) _ _ ⟨rfl, rfl, rfl, trivial⟩ ⟨sa, sb, ra, rb, oa, ob, (qb).modN mc (fun b hb e => by have h1 := q1.lt hb; have h2 : w1.heap.size ≤ wa.heap.size := za; omega), Mod.trans (Mod.trans nd.mod (both (both ma nA.mod) mb) fun _ _ e => e) mc fun b hb e => by have h2 : w1.heap.size ≤ wa.heap.size := za; omega, za, mc.blk (hXb) (by have h2 : w1.heap.size ≤ wa.heap.size := za; omega), mc.blk (mb.blk (nA.blk (ma.blk (nd.blk hV1) hVr)) hVr) (by have h2 : w1.heap.size ≤ wa.heap.size := za; omega), hEc⟩
    ·
        have nA := New.alloc w1.drew (.cells #[zi 0, zi 0, .slice none 0 0, .slice none 0 0, .slice none 0 0] 56)
        have hA := heap_alloc_new w1.drew (.cells #[zi 0, zi 0, .slice none 0 0, .slice none 0 0, .slice none 0 0] 56)
        refine Exists.intro (fun w'' : World => w''.heap[X]? = some (.cells #[.pointer (some ⟨h, 0, none⟩)] 36 (0, 0))) ?_
        refine And.intro (fun _ h => h) ?_
        refine And.intro (nA.blk (nd.blk hX1)) ?_
        refine call_ (u_ok h g A c bs p s1 2 Pool.w2 (w1.drew.alloc (.cells #[zi 0, zi 0, .slice none 0 0, .slice none 0 0, .slice none 0 0] 56)) (q1.new (nd.trans nA))) ?_
        rintro e wa ⟨na, sa, rfl, ra, hba, oa, qa, ma⟩
        refine ⟨_, rfl, ?_⟩
        have hXa := ma.blk (nA.blk (nd.blk hX1)) hXn
        refine Exists.intro (fun w'' : World => w''.heap[X]? = some (.cells #[.pointer (some ⟨h, 0, none⟩)] 36 (0, 0))) ?_
        refine And.intro (fun _ h => h) ?_
        refine And.intro (hXa) ?_
        refine call_ (u_ok h g A c bs p sa 2 Pool.w2 wa qa) ?_
        rintro e wb ⟨nb, sb, rfl, rb, hbb, ob, qb, mb⟩
        refine ⟨_, rfl, ?_⟩
        have hXb := mb.blk hXa hXn
        refine Exists.intro (fun w'' : World => w''.heap[X]? = some (.cells #[.pointer (some ⟨h, 0, none⟩)] 36 (0, 0))) ?_
        refine And.intro (fun _ h => h) ?_
        refine And.intro (hXb) ?_
        have za : w1.heap.size ≤ w1.drew.heap.size := nd.size
        have hEn : ¬ RS h g w1.drew.heap.size := fun e => by have := hrs1 _ e; omega
        refine And.intro rfl ?_
        refine storeN_all (vs := [zi na, zi nb, .slice none 0 0, .slice none 0 0, .slice none 0 0]) (mb.blk (ma.blk hA hEn) hEn) rfl (one5 na nb) ?_
        intro wc hEc mc sc
        exact hK (w1.drew.heap.size, na, nb) _ _ ⟨rfl, rfl, rfl, trivial⟩ ⟨sa, sb, ra, rb, oa, ob, (qb).modN mc (fun b hb e => by have h1 := q1.lt hb; have h2 : w1.heap.size ≤ w1.drew.heap.size := za; omega), Mod.trans (Mod.trans nd.mod (both (both nA.mod ma) mb) fun _ _ e => e) mc fun b hb e => by have h2 : w1.heap.size ≤ w1.drew.heap.size := za; omega, za, mc.blk (hXb) (by have h2 : w1.heap.size ≤ w1.drew.heap.size := za; omega), mc.blk (mb.blk (ma.blk (nA.blk (nd.blk hV1)) hVr) hVr) (by have h2 : w1.heap.size ≤ w1.drew.heap.size := za; omega), hEc⟩
  rintro ⟨E, n2, n3⟩ w3 fr3 ⟨s2, s3, r2, r3, o2, o3, q3, m3, hEw, hX3, hV3, hE3⟩
  dsimp only at r2 r3 hEw hE3
  have hz3 := m3.size
  have hEl : E < w3.heap.size := (Array.getElem?_eq_some_iff.1 hE3).1
  have hEr : ¬ RS h g E := fun e => by have := hrs1 _ e; omega
  have hE0 : ∀ b, Iin h g A bs p b → b ≠ E := fun b hb e => by have := q.lt hb; omega
  -- its bytes
  refine seq_cut (σ := (Option Addr × Nat) × List UInt8) (fun _ => [(1, .pointer (some ⟨X, 0, none⟩)), (2, .pointer (some ⟨V, 0, none⟩)), (3, .pointer (some ⟨E, 0, none⟩))]) (fun t w' => ∃ s4, Rd blobT bs s3 t.2 s4 ∧ t.2.length ≤ s4.1 - s3.1 ∧ On s3 s4 ∧ LRep u8R w' (fun b => b < w3.heap.size) (.slice t.1.1 t.2.length t.1.2) t.2 ∧ Ir w' h g A c bs p s4 ∧ Mod (fun b => RS h g b ∨ b = E) w3 w' ∧ w'.heap[X]? = some (.cells #[.pointer (some ⟨h, 0, none⟩)] 36 (0, 0)) ∧ w'.heap[V]? = some (.cells #[zi 0, zi 0, .slice none 0 0, .slice none 0 0, .slice none 0 0] 56 (0, 0)) ∧ w'.heap[E]? = some (.cells #[zi n2, zi n3, .slice t.1.1 t.2.length t.1.2, .slice none 0 0, .slice none 0 0] 56 (0, 0))) ?_ ?_
  rotate_left
  · intro K hK
    refine seq_cut (σ := Int) (fun n => [(1, .pointer (some ⟨X, 0, none⟩)), (2, .pointer (some ⟨V, 0, none⟩)), (3, .pointer (some ⟨E, 0, none⟩)), (4, zi n)]) (fun n w' => ∃ s4, Rd Class.n4 bs s3 n s4 ∧ On s3 s4 ∧ Ir w' h g A c bs p s4 ∧ Mod (RS h g) w3 w') ?_ ?_
    rotate_left
    · intro K2 hK2
      refine Exists.intro (some ⟨h, 0, none⟩) (And.intro (cell0 hX3) ?_)
      refine call_ (u_ok h g A c bs p s3 4 Pool.w4 w3 q3) ?_
      rintro e wa ⟨na, sa, rfl, ra, hba, oa, qa, ma⟩
      refine ⟨_, rfl, ?_⟩
      exact hK2 na _ _ ⟨rfl, rfl, rfl, rfl, trivial⟩ ⟨sa, ra, oa, qa, ma⟩
    rintro n w4 fr4 ⟨s4, r4, o4, q4, m4⟩
    have hX4 := m4.blk hX3 hXn
    have hV4 := m4.blk hV3 hVr
    have hE4 := m4.blk hE3 hEr
    refine Exists.intro (some ⟨h, 0, none⟩) (And.intro (cell0 hX4) ?_)
    refine Exists.intro s4.2 (And.intro (cellB q4.blk rfl) ?_)
    refine if_ (fun hz => ?_) (fun hz => ?_)
    · replace hz : s4.2 = false := by simpa using hz
      refine seq_cut (σ := (Option Addr × Nat) × List UInt8 × Int) (fun t => [(1, .pointer (some ⟨X, 0, none⟩)), (2, .pointer (some ⟨V, 0, none⟩)), (3, .pointer (some ⟨E, 0, none⟩)), (5, .slice t.1.1 t.2.1.length t.1.2), (6, zi t.2.2)]) (fun t w' => t.2.1 = (Word.getB bs s4.1 n).1 ∧ t.2.2 = (Word.getB bs s4.1 n).2.1 ∧ w'.ownsRow w4.heap.size 5 1 (.slice t.1.1 t.2.1.length t.1.2) t.2.1.length (bvs t.2.1) ∧ Ir w' h g A c bs p ((Word.getB bs s4.1 n).2.2, s4.2) ∧ Mod (RS h g) w4 w') ?_ ?_
      rotate_left
      · intro K2 hK2
        refine Exists.intro (some ⟨h, 0, none⟩) (And.intro (cell0 hX4) ?_)
        refine Exists.intro (some ⟨g, 0, none⟩) (And.intro (cellB q4.blk rfl) ?_)
        refine call_ (RBytes_ok g A c bs s4.1 n w4 q4.rd (by omega)) ?_
        rintro e w5 ⟨v, rfl, own5, rd5, m5⟩
        obtain ⟨A5, c5, rfl, _⟩ := own_slice own5
        refine ⟨_, rfl, ?_⟩
        refine hK2 ((A5, c5), (Word.getB bs s4.1 n).1, (Word.getB bs s4.1 n).2.1) _ _ ⟨rfl, rfl, rfl, rfl, rfl, trivial⟩ ⟨rfl, rfl, own5, ⟨m5.blk q4.blk q4.ne, rd5, q4.ne, q4.off, q4.pl.mod m5 (fun a ha hn e => (q4.pd _ (.inl ⟨a, ha, hn, rfl⟩)).2 e), fun k' h0 h5 => m5.cell (q4.tbl k' h0 h5) (fun e => (q4.pd _ (.inr rfl)).2 e), q4.pd⟩, m5.mono fun _ _ e => .inl e⟩
      rintro ⟨⟨A5, c5⟩, by_, er⟩ w5 fr5 ⟨hby, her, own5, q5, m5⟩
      dsimp only at hby her own5
      have rb := Rd.blob r4 hz
      have ob : On s3 ((Word.getB bs s4.1 n).2.2, !decide ((Word.getB bs s4.1 n).2.1 = 0)) := by
        have h1 := rb.1
        have h2 := o4.1
        have h3 : s4.1 ≤ (Word.getB bs s4.1 n).2.2 := by
          unfold Word.getB
          split
          · exact Nat.le_refl _
          · split
            · exact Nat.le_refl _
            · exact Nat.le_add_right _ _
        rcases o4.2.1 with h4 | h4
        · refine ⟨by omega, .inl (by dsimp only; omega), fun h => ?_⟩
          have := o4.2.2 h
          rw [hz] at this
          cases this
        · rw [hz] at h4
          cases h4
      have hlen : by_.length ≤ (Word.getB bs s4.1 n).2.2 - s3.1 := by
        have h2 := o4.1
        rw [hby]
        unfold Word.getB
        split
        · simp
        · split
          · simp
          · dsimp only
            rw [List.length_take]
            omega
      rw [← hby, ← her] at rb
      rw [← her] at ob
      have hX5 := m5.blk hX4 hXn
      have hV5 := m5.blk hV4 hVr
      have hE5 := m5.blk hE4 hEr
      generalize (Word.getB bs s4.1 n).2.2 = i5 at rb ob hlen q5
      have lb5 := bytes_rep (S := fun b => b < w3.heap.size) own5 (by have := rb.2.1; have := rb.1; dsimp only at *; omega) (fun b hb e => by have := m4.size; omega)
      have nd := New.drew w5
      refine draw_ (w := w5) ok (.q 0 (.q 1 (.q 2 (.q 3 (.q 4 (.e 5 (.q 6 (.q 7 (.e 8 .done))))))))) [8] (fun w'' : World => w''.heap[X]? = some (.cells #[.pointer (some ⟨h, 0, none⟩)] 36 (0, 0))) (by kernel_rfl) (by kernel_rfl) (by kernel_rfl) (by kernel_rfl) (by kernel_rfl) (nd.blk hX5) ?_
      refine Exists.intro (some ⟨h, 0, none⟩) (And.intro (fun w'' hw => cell0 hw) ?_)
      have hEd := nd.blk hE5
      refine And.intro ⟨_, cellB hEd rfl⟩ (And.intro (fzB hEd _) (force_ ?_))
      refine stK hEd (show (2 : Nat) < 5 by decide) ?_
      intro w6 hE6 m6 s6
      have hX6 := m6.blk (nd.blk hX5) (show ¬ X = E by omega)
      refine Exists.intro (fun w'' : World => w''.heap[X]? = some (.cells #[.pointer (some ⟨h, 0, none⟩)] 36 (0, 0))) ?_
      refine And.intro (fun _ h => h) ?_
      refine And.intro (hX6) ?_
      have q6 := (q5.new nd).modN m6 (fun b hb e => hE0 b hb e)
      have hb6 := q6.blk
      refine And.intro ⟨_, cellB hb6 rfl⟩ (And.intro (fzB hb6 _) (force_ ?_))
      refine stK hb6 (show (2 : Nat) < 3 by decide) ?_
      intro w7 hb7 m7 s7
      have m57 : Mod (fun b => RS h g b ∨ b = E) w5 w7 := Mod.trans (Mod.trans nd.mod (m6.mono fun _ _ e => .inr e) fun _ _ e => e) (m7.mono fun _ _ e => .inl (.inr e)) fun _ _ e => e
      have lb7 := LRep.mod u8Ok (by decide) lb5 (m57.mono fun b _ e => e.elim (fun e => by have := hrs1 _ e; omega) (fun e => by omega))
      exact hK ((A5, c5), by_) _ _ ⟨rfl, rfl, rfl, trivial⟩ ⟨(i5, !decide (er = 0)), rb, hlen, ob, lb7, q6.set m7 hb7, Mod.trans (both m4 m5 |>.mono fun _ _ e => .inl e) m57 fun _ _ e => e, m7.blk hX6 (fun e => hXn (.inr e)), m7.blk (m6.blk (nd.blk hV5) (show ¬ V = E by omega)) (fun e => hVr (.inr e)), m7.blk hE6 (fun e => hEr (.inr e))⟩
    · replace hz : s4.2 = true := by simpa using hz
      exact hK ((none, 0), []) _ _ ⟨rfl, rfl, rfl, trivial⟩ ⟨s4, Rd.blobN r4 hz [], by simp, o4, LRep.nil _ _ _ trivial, q4, m4.mono fun _ _ e => .inl e, hX4, hV4, hE4⟩
  rintro ⟨⟨Ab, cb⟩, by_⟩ w4 fr4 ⟨s4, r4, hb4, o4, lb4, q4, m4, hX4, hV4, hE4⟩
  dsimp only at r4 hb4 lb4 hE4
  have hz4 := m4.size
  have lmv : ∀ {b : Nat}, RS h g b ∨ b = E → b < w3.heap.size := fun e => e.elim (fun e => by have := hrs1 _ e; omega) (fun e => by omega)
  -- its handlers
  refine seq_cut (σ := (Option Addr × Nat) × List Hnd) (fun _ => [(1, .pointer (some ⟨X, 0, none⟩)), (2, .pointer (some ⟨V, 0, none⟩)), (3, .pointer (some ⟨E, 0, none⟩))]) (fun t w' => ∃ s5, Rd (hndsT p.l) bs s4 t.2 s5 ∧ csum cHnd t.2 ≤ (0 + 8) * (s5.1 - s4.1) + 8 ∧ On s4 s5 ∧ LRep hndR w' (fun b => b < w3.heap.size) (.slice t.1.1 t.2.length t.1.2) t.2 ∧ Ir w' h g A c bs p s5 ∧ Mod (fun b => RS h g b ∨ b = E) w4 w' ∧ w'.heap[X]? = some (.cells #[.pointer (some ⟨h, 0, none⟩)] 36 (0, 0)) ∧ w'.heap[V]? = some (.cells #[zi 0, zi 0, .slice none 0 0, .slice none 0 0, .slice none 0 0] 56 (0, 0)) ∧ w'.heap[E]? = some (.cells #[zi n2, zi n3, .slice Ab by_.length cb, .slice t.1.1 t.2.length t.1.2, .slice none 0 0] 56 (0, 0))) ?_ ?_
  rotate_left
  · intro K hK
    refine Exists.intro (some ⟨h, 0, none⟩) (And.intro (cell0 hX4) ?_)
    refine call_ (members_hnd h g A c bs p s4 w4 q4 hO X hX4 hXn hm) ?_
    rintro e wa ⟨v, hs, sa, rfl, la, ra, ca, _, oa, qa, ma⟩
    obtain ⟨Ah, ch, rfl, _⟩ := la.get hndOk (by decide)
    refine ⟨_, rfl, ?_⟩
    have hEa := ma.blk hE4 hEr
    refine And.intro ⟨_, cellB hEa rfl⟩ (And.intro (fzB hEa _) (force_ ?_))
    refine stK hEa (show (3 : Nat) < 5 by decide) ?_
    intro wb hEb mb sb
    exact hK ((Ah, ch), hs) _ _ ⟨rfl, rfl, rfl, trivial⟩ ⟨sa, ra, ca, oa, LRep.weak hndOk (LRep.mod hndOk (by decide) la (mb.mono fun b _ e => by omega)) (fun b _ e => by omega), qa.modN mb (fun b hb e => hE0 b hb e), Mod.trans (ma.mono fun _ _ e => .inl e) mb fun _ _ e => .inr e, mb.blk (ma.blk hX4 hXn) (show ¬ X = E by omega), mb.blk (ma.blk hV4 hVr) (show ¬ V = E by omega), hEb⟩
  rintro ⟨⟨Ah, ch⟩, hs⟩ w5 fr5 ⟨s5, r5, hc5, o5, lh5, q5, m5, hX5, hV5, hE5⟩
  dsimp only at r5 hc5 lh5 hE5
  have hz5 := m5.size
  have lb5 := LRep.mod u8Ok (by decide) lb4 (m5.mono fun b _ e => lmv e)
  have a0 : Mod (RS h g) w w3 := Mod.trans n0.mod (both m1 m3) fun _ _ e => e
  have a5 : Mod (RS h g) w w5 := Mod.trans a0 (both m4 m5) fun b hb e => e.elim id fun e => by omega
  have fin : ∀ (ms : List Mp) (Am : Option Addr) (cm : Nat) (s9 : RSt) (wz wf : World), w5.heap.size ≤ wz.heap.size → LRep mpR wz (fun b => b < w3.heap.size) (.slice Am ms.length cm) ms → LRep u8R wz (fun b => b < w3.heap.size) (.slice Ab by_.length cb) by_ → LRep hndR wz (fun b => b < w3.heap.size) (.slice Ah hs.length ch) hs →
      Rd (optT p.l) bs s5 ms s9 → csum cMp ms ≤ 22 * (s9.1 - s5.1) + 16 → On s5 s9 → Ir wz h g A c bs p s9 → Mod (fun b => RS h g b ∨ b = E ∨ w5.heap.size ≤ b) w5 wz → Mod (fun b => b = V) wz wf →
      ∃ cs x s', Ending.returned (.agg #[zi n2, zi n3, .slice Ab by_.length cb, .slice Ah hs.length ch, .slice Am ms.length cm]) = .returned (.agg (List.toArray cs)) ∧ codR wf (fun b => b < w.heap.size) cs x ∧ Rd (partT (codT p.l)) bs s x s' ∧ cCod x ≤ 22 * (s'.1 - s.1) + 44 ∧ On s s' ∧ Ir wf h g A c bs p s' ∧ Mod (RS h g) w wf := by
    intro ms Am cm s9 wz wf hzz lm lb lh r9 hc9 o9 q9 mz mf
    have lf : ∀ {α : Type} {R : RepT α} {n : Nat} {v : Value} {xs : List α}, RepOk R n → 0 < n → LRep R wz (fun b => b < w3.heap.size) v xs → LRep R wf (fun b => b < w.heap.size) v xs := fun k hn l => LRep.weak k (LRep.mod k hn l (mf.mono fun b _ e => by omega)) fun b _ e => by omega
    refine ⟨_, ⟨n2, n3, by_, hs, ms⟩, s9, rfl, ⟨_, _, _, rfl, lf u8Ok (by decide) lb, lf hndOk (by decide) lh, lf mpOk (by decide) lm⟩, ?_, ?_, ?_, q9.modN mf (fun b hb e => hVn b hb e), ?_⟩
    · exact Rd.part r1 (Rd.byP (f := fun c : Cod => (c.stack, c.locals, c.bytes, c.hands, c.maps)) (y := ⟨n2, n3, by_, hs, ms⟩) (r2.seq (r3.seq (r4.seq (r5.seq r9)))) (fun z e => by cases z; cases e; rfl)) hm
    · have a1 := o1.1
      have a2 := o2.1
      have a3 := o3.1
      have a4 := o4.1
      have a5 := o5.1
      have a9 := o9.1
      show 4 + (4 + by_.length) + (2 + csum cHnd hs) + (10 + csum cMp ms) ≤ _
      omega
    · exact o1.trans (o2.trans (o3.trans (o4.trans (o5.trans o9))))
    · have az : Mod (RS h g) w wz := Mod.trans a5 mz fun b hb e => by
        have := a5.size
        rcases e with e | e | e
        · exact e
        · omega
        · omega
      exact Mod.trans az mf fun b hb e => by omega
  -- its maps
  refine seq_cut (σ := Int) (fun _ => [(1, .pointer (some ⟨X, 0, none⟩)), (2, .pointer (some ⟨V, 0, none⟩)), (3, .pointer (some ⟨E, 0, none⟩))]) (fun n w' => ∃ s6, n ≠ 0 ∧ Rd Class.n2 bs s5 n s6 ∧ On s5 s6 ∧ Ir w' h g A c bs p s6 ∧ Mod (RS h g) w5 w') ?_ ?_
  rotate_left
  · intro K hK
    refine Exists.intro (some ⟨h, 0, none⟩) (And.intro (cell0 hX5) ?_)
    refine call_ (u_ok h g A c bs p s5 2 Pool.w2 w5 q5) ?_
    rintro e wa ⟨na, sa, rfl, ra, hba, oa, qa, ma⟩
    refine ⟨_, rfl, ?_⟩
    refine if_p (fun h0 => ?_) (fun h0 => ?_)
    · replace h0 : na = 0 := h0
      have hEa := ma.blk hE5 hEr
      have hVa := ma.blk hV5 hVr
      refine loadN_row (vs := [zi n2, zi n3, .slice Ab by_.length cb, .slice Ah hs.length ch, .slice none 0 0]) (rowB hEa) rfl ?_
      refine And.intro rfl ?_
      refine storeN_all (vs := [zi n2, zi n3, .slice Ab by_.length cb, .slice Ah hs.length ch, .slice none 0 0]) hVa rfl (ones5 _ _ _ _ _ _ _ _ _ _ _) ?_
      intro wb hb mb sb
      refine loadN_row (vs := [zi n2, zi n3, .slice Ab by_.length cb, .slice Ah hs.length ch, .slice none 0 0]) (rowB hb) rfl ?_
      exact fin [] none 0 sa wa wb ma.size (LRep.nil _ _ _ trivial) (LRep.mod u8Ok (by decide) lb5 (ma.mono fun b _ e => lmv (.inl e))) (LRep.mod hndOk (by decide) lh5 (ma.mono fun b _ e => lmv (.inl e))) (Rd.opt0 ra h0) (Nat.zero_le _) oa qa (ma.mono fun _ _ e => .inl e) mb
    · replace h0 : ¬ na = 0 := h0
      exact hK na _ _ ⟨rfl, rfl, rfl, trivial⟩ ⟨sa, h0, ra, oa, qa, ma⟩
  rintro nn w6 fr6 ⟨s6, hn6, r6, o6, q6, m6⟩
  have hX6 := m6.blk hX5 hXn
  have hV6 := m6.blk hV5 hVr
  have hE6 := m6.blk hE5 hEr
  refine seq_cut (σ := Int) (fun _ => [(1, .pointer (some ⟨X, 0, none⟩)), (2, .pointer (some ⟨V, 0, none⟩)), (3, .pointer (some ⟨E, 0, none⟩))]) (fun n w' => ∃ s7, Rd Class.n2 bs s6 n s7 ∧ On s6 s7 ∧ Ir w' h g A c bs p s7 ∧ Mod (RS h g) w6 w') ?_ ?_
  rotate_left
  · intro K hK
    refine Exists.intro (some ⟨h, 0, none⟩) (And.intro (cell0 hX6) ?_)
    refine call_ (u_ok h g A c bs p s6 2 Pool.w2 w6 q6) ?_
    rintro e wa ⟨na, sa, rfl, ra, hba, oa, qa, ma⟩
    refine ⟨_, rfl, ?_⟩
    exact hK na _ _ ⟨rfl, rfl, rfl, trivial⟩ ⟨sa, ra, oa, qa, ma⟩
  rintro m7' w7 fr7 ⟨s7, r7, o7, q7, m7⟩
  have hX7 := m7.blk hX6 hXn
  have hV7 := m7.blk hV6 hVr
  have hE7 := m7.blk hE6 hEr
  refine seq_cut (σ := Int) (fun _ => [(1, .pointer (some ⟨X, 0, none⟩)), (2, .pointer (some ⟨V, 0, none⟩)), (3, .pointer (some ⟨E, 0, none⟩))]) (fun n w' => ∃ s8, Rd Class.n4 bs s7 n s8 ∧ On s7 s8 ∧ Ir w' h g A c bs p s8 ∧ Mod (RS h g) w7 w') ?_ ?_
  rotate_left
  · intro K hK
    refine Exists.intro (some ⟨h, 0, none⟩) (And.intro (cell0 hX7) ?_)
    refine call_ (u_ok h g A c bs p s7 4 Pool.w4 w7 q7) ?_
    rintro e wa ⟨na, sa, rfl, ra, hba, oa, qa, ma⟩
    refine ⟨_, rfl, ?_⟩
    exact hK na _ _ ⟨rfl, rfl, rfl, trivial⟩ ⟨sa, ra, oa, qa, ma⟩
  rintro m8' w8 fr8 ⟨s8, r8, o8, q8, m8⟩
  have hX8 := m8.blk hX7 hXn
  have hV8 := m8.blk hV7 hVr
  have hE8 := m8.blk hE7 hEr
  have m58 : Mod (RS h g) w5 w8 := both (both m6 m7) m8
  have hz8 := m58.size
  refine seq_cut (σ := Nat) (fun L => [(1, .pointer (some ⟨X, 0, none⟩)), (2, .pointer (some ⟨V, 0, none⟩)), (3, .pointer (some ⟨E, 0, none⟩)), (7, .pointer (some ⟨L, 0, none⟩))]) (fun L w' => New w8 w' ∧ w8.heap.size ≤ L ∧ w'.heap[L]? = some (.cells #[zi (-1)] 3 (0, 0))) ?_ ?_
  rotate_left
  · intro K hK
    have n9 := New.alloc w8 (.cells #[zi 0] 3)
    have hb9 := heap_alloc_new w8 (.cells #[zi 0] 3)
    refine And.intro ⟨_, cell0 hb9⟩ (And.intro (fz0 hb9) (force_ ?_))
    refine st0 hb9 (show (0 : Nat) < 1 by decide) ?_
    intro wa hb ma sa
    exact hK w8.heap.size _ _ ⟨rfl, rfl, rfl, rfl, trivial⟩ ⟨New.made ma, Nat.le_refl _, hb⟩
  rintro L w9 fr9 ⟨n9, hLw, hL9⟩
  have q9 := q8.new n9
  have hX9 := n9.blk hX8
  have hV9 := n9.blk hV8
  have hE9 := n9.blk hE8
  have hz9 := n9.size
  have hLn : ∀ b, Iin h g A bs p b → b ≠ L := fun b hb e => by have := q.lt hb; omega
  refine seq_cut (σ := (Option Addr × Nat) × List Mp) (fun _ => [(1, .pointer (some ⟨X, 0, none⟩)), (2, .pointer (some ⟨V, 0, none⟩)), (3, .pointer (some ⟨E, 0, none⟩)), (7, .pointer (some ⟨L, 0, none⟩))]) (fun t w' => ∃ s9, Rd (mapsT p.l) bs s8 t.2 s9 ∧ csum cMp t.2 ≤ (6 + 16) * (s9.1 - s8.1) + 16 ∧ On s8 s9 ∧ LRep mpR w' (fun b => b < w3.heap.size) (.slice t.1.1 t.2.length t.1.2) t.2 ∧ Ir w' h g A c bs p s9 ∧ Mod (fun b => RS h g b ∨ b = E ∨ b = L) w9 w' ∧ w'.heap[V]? = some (.cells #[zi 0, zi 0, .slice none 0 0, .slice none 0 0, .slice none 0 0] 56 (0, 0)) ∧ w'.heap[E]? = some (.cells #[zi n2, zi n3, .slice Ab by_.length cb, .slice Ah hs.length ch, .slice t.1.1 t.2.length t.1.2] 56 (0, 0))) ?_ ?_
  rotate_left
  · intro K hK
    refine Exists.intro (some ⟨h, 0, none⟩) (And.intro (cell0 hX9) ?_)
    refine call_ (members_map h g A c bs p s8 w9 q9 hO X L hX9 hXn hL9 hLn (by omega) hm) ?_
    rintro e wa ⟨v, ms, sa, rfl, la, ra, ca, _, oa, qa, ma⟩
    obtain ⟨Am, cm, rfl, _⟩ := la.get mpOk (by decide)
    refine ⟨_, rfl, ?_⟩
    have hEa := ma.blk hE9 (fun e => e.elim hEr (by omega))
    refine And.intro ⟨_, cellB hEa rfl⟩ (And.intro (fzB hEa _) (force_ ?_))
    refine stK hEa (show (4 : Nat) < 5 by decide) ?_
    intro wb hEb mb sb
    exact hK ((Am, cm), ms) _ _ ⟨rfl, rfl, rfl, rfl, trivial⟩ ⟨sa, ra, ca, oa, LRep.weak mpOk (LRep.mod mpOk (by decide) la (mb.mono fun b _ e => by omega)) (fun b _ e => by omega), qa.modN mb (fun b hb e => hE0 b hb e), Mod.trans (ma.mono fun _ _ e => e.elim .inl fun e => .inr (.inr e)) mb fun _ _ e => .inr (.inl e), mb.blk (ma.blk hV9 (fun e => e.elim hVr (by omega))) (show ¬ V = E by omega), hEb⟩
  rintro ⟨⟨Am, cm⟩, ms⟩ wz frz ⟨s9, r9, hc9, o9, lm9, qz, mz, hVz, hEz⟩
  dsimp only at r9 hc9 lm9 hEz
  have hzz := mz.size
  refine loadN_row (vs := [zi n2, zi n3, .slice Ab by_.length cb, .slice Ah hs.length ch, .slice Am ms.length cm]) (rowB hEz) rfl ?_
  refine And.intro rfl ?_
  refine storeN_all (vs := [zi n2, zi n3, .slice Ab by_.length cb, .slice Ah hs.length ch, .slice Am ms.length cm]) hVz rfl (ones5 _ _ _ _ _ _ _ _ _ _ _) ?_
  intro wb hb mb sb
  refine loadN_row (vs := [zi n2, zi n3, .slice Ab by_.length cb, .slice Ah hs.length ch, .slice Am ms.length cm]) (rowB hb) rfl ?_
  have m5z : Mod (fun b => RS h g b ∨ b = E ∨ w5.heap.size ≤ b) w5 wz := Mod.trans ((both m58 n9.mod).mono fun _ _ e => .inl e) mz fun b _ e => by
    rcases e with e | e | e
    · exact .inl e
    · exact .inr (.inl e)
    · exact .inr (.inr (by omega))
  have lmz : ∀ b, b < w5.heap.size → RS h g b ∨ b = E ∨ w5.heap.size ≤ b → b < w3.heap.size := fun b h1 e => by
    rcases e with e | e | e
    · exact lmv (.inl e)
    · exact lmv (.inr e)
    · omega
  refine fin ms Am cm s9 wz wb (by omega) lm9 ?_ ?_ (Rd.opt1 r6 hn6 r7 r8 r9 hm) ?_ (o6.trans (o7.trans (o8.trans o9))) qz m5z mb
  · exact LRep.mod u8Ok (by decide) lb5 (m5z.mono lmz)
  · exact LRep.mod hndOk (by decide) lh5 (m5z.mono lmz)
  · have a6 := o6.1
    have a7 := o7.1
    have a8 := o8.1
    have a9 := o9.1
    omega

end Go.Proofs.YtdcaafldnbcdkaaGreatDoor.Class

/-! ### KRead7 -/
namespace Go.Proofs.YtdcaafldnbcdkaaGreatDoor.Class
open Go Go.Proofs.YtdcaafldnbcdkaaGreatDoor Go.Proofs.YtdcaafldnbcdkaaGreatDoor.Eng Go.Proofs Go.Proofs.YtdcaafldnbcdkaaGreatDoor.Word Go.Proofs.YtdcaafldnbcdkaaGreatDoor.Fmt
open Go.Proofs.YtdcaafldnbcdkaaGreatDoor.Pool (rd_modN rd_low RS Ent at_ poolF strV entC entV EntOk Pl OkPool both own_low tagAt)
set_option maxRecDepth 10000

theorem one_rfld (n1 : Int) (z1 z2 : List UInt8) : ∀ u ∈ [zi n1, strV z1, strV z2], u.oneCell' = true := fun u hu => by
  simp only [List.mem_cons, List.not_mem_nil, or_false] at hu
  rcases hu with rfl | rfl | rfl <;> rfl
theorem one_rmth (n1 : Int) (z1 z2 : List UInt8) (a b : Int) (A1 A2 A3 : Option Addr) (n1' c1 n2 c2 n3 c3 : Nat) : ∀ u ∈ [zi n1, strV z1, strV z2, zi a, zi b, Value.slice A1 n1' c1, Value.slice A2 n2 c2, Value.slice A3 n3 c3], u.oneCell' = true := fun u hu => by
  simp only [List.mem_cons, List.not_mem_nil, or_false] at hu
  rcases hu with rfl | rfl | rfl | rfl | rfl | rfl | rfl | rfl <;> rfl
theorem storeN_atX {a : Addr} {g j : Nat} {t : TypeId} {K : World → Prop} {vs : List Value} {w : World} {arr : Array Value} (h0 : a = ⟨g, j, none⟩) (hg : w.heap[g]? = some (.cells arr t (0, 0))) (hb : j + vs.length ≤ arr.size) (h1 : ∀ v ∈ vs, v.oneCell' = true)
    (hk : ∀ w', w'.heap[g]? = some (.cells (arr.toList.take j ++ vs ++ arr.toList.drop (j + vs.length)).toArray t (0, 0)) → Mod (fun k => k = g) w w' → w'.heap.size = w.heap.size → K w') : storeN a vs 0 w K := by
  subst h0
  exact storeN_row hg hb h1 hk
theorem rfld_ok (h g : Nat) (A : Option Addr) (c : Nat) (bs : List UInt8) (p : Po) (s : RSt) (w : World) (q : Ir w h g A c bs p s) (hO : OkPool p.l) (X : Nat) (hX : w.heap[X]? = some (.cells #[.pointer (some ⟨h, 0, none⟩)] 36 (0, 0))) (hXn : ¬ RS h g X) :
    Calls Tryz.prog 16 #[.pointer (some ⟨X, 0, none⟩)] w fun e w' => ∃ cs x s', e = .returned (.agg (List.toArray cs)) ∧ fldR w' (fun b => b < w.heap.size) cs x ∧ Rd (fldT p.l) bs s x s' ∧ cFld x ≤ 0 * (s'.1 - s.1) + 8 ∧ On s s' ∧ Ir w' h g A c bs p s' ∧ Mod (RS h g) w w' ∧ i64 x.acc := by
  refine enter ok Tryz.func16 rfl rfl rfl ?_
  obtain ⟨V, hV⟩ : ∃ V, V = w.heap.size := ⟨_, rfl⟩
  have hXw : X < w.heap.size := (Array.getElem?_eq_some_iff.1 hX).1
  refine seq_cut (σ := Unit) (fun _ => [(0, .pointer (some ⟨X, 0, none⟩)), (1, .pointer (some ⟨V, 0, none⟩))]) (fun _ w' => New w w' ∧ w'.heap[V]? = some (.cells #[zi 0, strV [], strV []] 49 (0, 0))) ?_ ?_
  rotate_left
  · intro K hK
    rw [hV] at hK
    exact hK () _ _ ⟨rfl, rfl, trivial⟩ ⟨New.alloc w _, heap_alloc_new w (.cells #[zi 0, strV [], strV []] 49)⟩
  rintro _ w0 fr0 ⟨n0, hV0⟩
  have q0 := q.new n0
  have hX0 := n0.blk hX
  have hVn : ∀ b, Iin h g A bs p b → b ≠ V := fun b hb e => by have := q.lt hb; omega
  have hVr : ¬ RS h g V := fun e => by
    rcases e with e | e
    · exact hVn _ (.inr (.inl rfl)) e.symm
    · exact hVn _ (.inl rfl) e.symm
  have hVl : V < w0.heap.size := (Array.getElem?_eq_some_iff.1 hV0).1
  have hz0 := n0.size
  refine seq_cut (σ := Nat × Int) (fun t => [(0, .pointer (some ⟨X, 0, none⟩)), (1, .pointer (some ⟨V, 0, none⟩)), (2, .pointer (some ⟨t.1, 0, none⟩))]) (fun t w' => ∃ s1, Rd Class.n2 bs s t.2 s1 ∧ (0 ≤ t.2 ∧ t.2 < 65536) ∧ On s s1 ∧ Ir w' h g A c bs p s1 ∧ Mod (RS h g) w0 w' ∧ w0.heap.size ≤ t.1 ∧ w'.heap[t.1]? = some (.cells #[zi t.2, strV [], strV []] 49 (0, 0))) ?_ ?_
  rotate_left
  · intro K hK
    refine Exists.intro (some ⟨h, 0, none⟩) (And.intro (cell0 hX0) ?_)
    refine call_ (u_ok h g A c bs p s 2 Pool.w2 w0 q0) ?_
    rintro e w1 ⟨n, s1, rfl, r1, hb1, hp1, q1, m1⟩
    refine ⟨_, rfl, ?_⟩
    refine And.intro rfl ?_
    refine storeNew (vs := [zi n, strV [], strV []]) (arr := #[zi 0, strV [], strV []]) rfl (one_rfld _ [] []) ?_
    intro w2 hb2 n2 s2
    exact hK (w1.heap.size, n) _ _ ⟨rfl, rfl, rfl, trivial⟩ ⟨s1, r1, hb1, hp1, q1.new n2, both m1 n2.mod, m1.size, hb2⟩
  rintro ⟨E, n1⟩ w1 fr1 ⟨s1, r1, hb1, o1, q1, m1, hEw, hE1⟩
  dsimp only at r1 hb1 hEw hE1
  have hz1 := m1.size
  have hE0 : ∀ b, Iin h g A bs p b → b ≠ E := fun b hb e => by have := q0.lt hb; omega
  have hEr : ¬ RS h g E := fun e => by
    rcases e with e | e
    · exact hE0 _ (.inr (.inl rfl)) e.symm
    · exact hE0 _ (.inl rfl) e.symm
  have hX1 := m1.blk hX0 hXn
  have hV1 := m1.blk hV0 hVr
  have hrs1 : ∀ b, RS h g b → b < w.heap.size := fun b e => q.lt (by rcases e with e | e; exact .inr (.inl e); exact .inl e)
  refine seq_cut (σ := List UInt8) (fun _ => [(0, .pointer (some ⟨X, 0, none⟩)), (1, .pointer (some ⟨V, 0, none⟩)), (2, .pointer (some ⟨E, 0, none⟩))]) (fun z w' => ∃ s', Rd (utfT p.l) bs s1 z s' ∧ On s1 s' ∧ Ir w' h g A c bs p s' ∧ Mod (fun b => RS h g b ∨ b = E) w1 w' ∧ w'.heap[X]? = some (.cells #[.pointer (some ⟨h, 0, none⟩)] 36 (0, 0)) ∧ w'.heap[V]? = some (.cells #[zi 0, strV [], strV []] 49 (0, 0)) ∧ w'.heap[E]? = some (.cells #[zi n1, strV z, strV []] 49 (0, 0))) ?_ ?_
  rotate_left
  · intro K hK
    refine Exists.intro (some ⟨h, 0, none⟩) (And.intro (cell0 hX1) ?_)
    refine call_ (rtext_ok h g A c bs p s1 w1 q1 hO) ?_
    rintro e wa ⟨z, sa, rfl, ra, hpa, qa, ma⟩
    refine ⟨_, rfl, ?_⟩
    have hEa := ma.blk hE1 hEr
    refine And.intro ⟨_, cellB hEa rfl⟩ (And.intro (fzB hEa _) (force_ ?_))
    refine stK hEa (show (1 : Nat) < 3 by decide) ?_
    intro wb hEb mb sb
    exact hK z _ _ ⟨rfl, rfl, rfl, trivial⟩ ⟨sa, ra, hpa, qa.modN mb (fun b hb e => hE0 b hb e), Mod.trans (ma.mono fun _ _ e => .inl e) mb fun _ _ e => .inr e, mb.blk (ma.blk hX1 hXn) (show ¬ X = E by omega), mb.blk (ma.blk hV1 hVr) (show ¬ V = E by omega), hEb⟩
  rintro z1 w2 fr2 ⟨s2, r2, o2, q2, m2, hX2, hV2, hE2⟩
  have hz2 := m2.size
  refine seq_cut (σ := List UInt8) (fun _ => [(0, .pointer (some ⟨X, 0, none⟩)), (1, .pointer (some ⟨V, 0, none⟩)), (2, .pointer (some ⟨E, 0, none⟩))]) (fun z w' => ∃ s', Rd (utfT p.l) bs s2 z s' ∧ On s2 s' ∧ Ir w' h g A c bs p s' ∧ Mod (fun b => RS h g b ∨ b = E) w2 w' ∧ w'.heap[X]? = some (.cells #[.pointer (some ⟨h, 0, none⟩)] 36 (0, 0)) ∧ w'.heap[V]? = some (.cells #[zi 0, strV [], strV []] 49 (0, 0)) ∧ w'.heap[E]? = some (.cells #[zi n1, strV z1, strV z] 49 (0, 0))) ?_ ?_
  rotate_left
  · intro K hK
    refine Exists.intro (some ⟨h, 0, none⟩) (And.intro (cell0 hX2) ?_)
    refine call_ (rtext_ok h g A c bs p s2 w2 q2 hO) ?_
    rintro e wa ⟨z, sa, rfl, ra, hpa, qa, ma⟩
    refine ⟨_, rfl, ?_⟩
    have hEa := ma.blk hE2 hEr
    refine And.intro ⟨_, cellB hEa rfl⟩ (And.intro (fzB hEa _) (force_ ?_))
    refine stK hEa (show (2 : Nat) < 3 by decide) ?_
    intro wb hEb mb sb
    exact hK z _ _ ⟨rfl, rfl, rfl, trivial⟩ ⟨sa, ra, hpa, qa.modN mb (fun b hb e => hE0 b hb e), Mod.trans (ma.mono fun _ _ e => .inl e) mb fun _ _ e => .inr e, mb.blk (ma.blk hX2 hXn) (show ¬ X = E by omega), mb.blk (ma.blk hV2 hVr) (show ¬ V = E by omega), hEb⟩
  rintro z2 w3 fr3 ⟨s3, r3, o3, q3, m3, hX3, hV3, hE3⟩
  have hz3 := m3.size
  refine seq_cut (σ := Int) (fun _ => [(0, .pointer (some ⟨X, 0, none⟩)), (1, .pointer (some ⟨V, 0, none⟩)), (2, .pointer (some ⟨E, 0, none⟩))]) (fun n w' => ∃ s', Rd Class.n2 bs s3 n s' ∧ On s3 s' ∧ Ir w' h g A c bs p s' ∧ Mod (RS h g) w3 w') ?_ ?_
  rotate_left
  · intro K hK
    refine Exists.intro (some ⟨h, 0, none⟩) (And.intro (cell0 hX3) ?_)
    refine call_ (u_ok h g A c bs p s3 2 Pool.w2 w3 q3) ?_
    rintro e wa ⟨na, sa, rfl, ra, hba, hpa, qa, ma⟩
    refine ⟨_, rfl, ?_⟩
    exact hK na _ _ ⟨rfl, rfl, rfl, trivial⟩ ⟨sa, ra, hpa, qa, ma⟩
  rintro k4 w4 fr4 ⟨s4, r4, o4, q4, m4'⟩
  have hX4 := m4'.blk hX3 hXn
  have hV4 := m4'.blk hV3 hVr
  have hE4 := m4'.blk hE3 hEr
  have m4 := m4'.mono (show ∀ b, b < w3.heap.size → RS h g b → RS h g b ∨ b = E from fun _ _ e => .inl e)
  have hz4 := m4.size
  refine loadN_row (vs := [zi n1, strV z1, strV z2]) (rowB hE4) rfl ?_
  refine And.intro rfl ?_
  refine storeN_all (vs := [zi n1, strV z1, strV z2]) hV4 rfl (one_rfld _ _ _) ?_
  intro wf hbf mf sf
  refine loadN_row (vs := [zi n1, strV z1, strV z2]) (rowB hbf) rfl ?_
  refine ⟨_, ⟨n1, z1, z2⟩, s4, rfl, rfl, ?_, by show 8 ≤ _; omega, o1.trans (o2.trans (o3.trans (o4))), q4.modN mf (fun b hb e => hVn b hb e), Mod.trans (Mod.trans (Mod.trans n0.mod m1 fun _ _ e => e) (both (both (m2) m3) m4) fun b hb e => e.elim id fun e => by omega) mf fun b hb e => by omega, by unfold i64; dsimp only; omega⟩
  exact RdS.byP (f := fun f : Fld => (f.acc, f.name, f.typ, 0)) (y := ⟨n1, z1, z2⟩) (RdS.seq (r1.S fun _ => True) (RdS.seq (r2.S fun _ => True) (RdS.seq (r3.S fun _ => True) (RdS.num (m := 0) r4)))) (fun z hz => ⟨trivial, trivial, trivial, rfl⟩) (fun z e => by cases z; cases e; rfl)

theorem members_fld (h g : Nat) (A : Option Addr) (c : Nat) (bs : List UInt8) (p : Po) (s : RSt) (w : World) (q : Ir w h g A c bs p s) (hO : OkPool p.l) (X : Nat) (hX : w.heap[X]? = some (.cells #[.pointer (some ⟨h, 0, none⟩)] 36 (0, 0))) (hXn : ¬ RS h g X) (hm : bs.length ≤ 1000000) :
    Calls Tryz.prog 15 #[.pointer (some ⟨h, 0, none⟩), .func (.func 16) #[] #[.pointer (some ⟨X, 0, none⟩)]] w fun e w' => ∃ v xs s', e = .returned v ∧ LRep fldR w' (fun b => b < w.heap.size) v xs ∧ Rd (lstT (fldT p.l) 256 (by decide)) bs s xs s' ∧ csum cFld xs ≤ (0 + 8) * (s'.1 - s.1) + 8 ∧ xs.length ≤ (s'.1 - s.1) + 1 ∧ On s s' ∧ Ir w' h g A c bs p s' ∧ Mod (RS h g) w w' ∧ ∀ x ∈ xs, (fun x : Fld => i64 x.acc) x := by
  refine enter ok Tryz.func15 rfl rfl rfl ?_
  have low : ∀ b, (RS h g) b → b < w.heap.size := fun b e => q.lt (by rcases e with e | e; exact .inr (.inl e); exact .inl e)
  refine seq_assign ?_
  refine seq_assign ?_
  refine seq_cut (σ := (Option Addr × Nat) × List (List Value × Fld)) (fun t => [(5, .slice t.1.1 t.2.length t.1.2)]) (fun t w' => ∃ s', LRep fldR w' (fun b => b < w.heap.size) (.slice t.1.1 t.2.length t.1.2) (t.2.map (·.2)) ∧ Rd (lstT (fldT p.l) 256 (by decide)) bs s (t.2.map (·.2)) s' ∧ csum cFld (t.2.map (·.2)) ≤ (0 + 8) * (s'.1 - s.1) + 8 ∧ (t.2.map (·.2)).length ≤ (s'.1 - s.1) + 1 ∧ On s s' ∧ Ir w' h g A c bs p s' ∧ Mod (RS h g) w w' ∧ ∀ x ∈ t.2.map (·.2), (fun x : Fld => i64 x.acc) x) ?_ ?_
  · rintro t w1 fr1 ⟨s', h1, h2, h3, h4, h5, h6, h8, h7⟩
    exact ⟨_, _, s', rfl, h1, h2, h3, h4, h5, h6, h8, h7⟩
  intro K hK
  refine seq_cut (σ := Int) (fun n => [(0, .pointer (some ⟨h, 0, none⟩)), (1, .func (.func 16) #[] #[.pointer (some ⟨X, 0, none⟩)]), (5, .slice none 0 0), (6, zi n)]) (fun n w' => ∃ s1, Rd n2 bs s n s1 ∧ (0 ≤ n ∧ n < 65536) ∧ On s s1 ∧ Ir w' h g A c bs p s1 ∧ Mod (RS h g) w w' ∧ Mod (RS h g) w w') ?_ ?_
  rotate_left
  · intro K2 hK2
    refine call_ (u_ok h g A c bs p s 2 Pool.w2 w q) ?_
    rintro e w1 ⟨n, s1, rfl, rd1, hb, o1, p1, m1⟩
    refine ⟨_, rfl, ?_⟩
    exact hK2 n _ _ ⟨rfl, rfl, rfl, rfl, trivial⟩ ⟨s1, rd1, hb, o1, p1, m1.mono fun b hb e => e, m1⟩
  rintro n w1 fr1 ⟨s1, rd1, hn, o1, p1, m1, m1'⟩
  refine den_loop (σ := ((Option Addr × Nat) × List (List Value × Fld)) × Int × RSt) (fun t => [(0, .pointer (some ⟨h, 0, none⟩)), (1, .func (.func 16) #[] #[.pointer (some ⟨X, 0, none⟩)]), (5, .slice t.1.1.1 t.1.2.length t.1.1.2), (6, zi t.2.1)])
    (fun m t wl => m = t.2.1.toNat ∧ LRd (fldT p.l) 256 bs s (t.1.2.map (·.2)) t.2.1.toNat t.2.2 ∧ t.2.1.toNat + t.1.2.length ≤ 65536 ∧ t.2.1 ≤ 65536 ∧ On s t.2.2 ∧ Ir wl h g A c bs p t.2.2 ∧ Mod (RS h g) w wl ∧ LCo cFld 0 8 s (t.1.2.map (·.2)) t.2.2 ∧ wl.ownsRow w.heap.size 49 3 (.slice t.1.1.1 t.1.2.length t.1.1.2) t.1.2.length (cellsOf t.1.2) ∧
      (∀ y ∈ t.1.2, fldR wl (fun b => b < w.heap.size ∨ some b = (Value.slice t.1.1.1 t.1.2.length t.1.1.2).ownBlock) y.1 y.2) ∧ ∀ x ∈ t.1.2.map (·.2), (fun x : Fld => i64 x.acc) x) n.toNat (((none, 0), []), n, s1)
    ⟨rfl, rfl, rfl, rfl, trivial⟩ ⟨rfl, LRd.start (by decide) rd1, by simp; omega, by dsimp only; omega, o1, p1, m1, LCo.start, ⟨rfl, .inl ⟨rfl, rfl⟩⟩, (fun _ h => (by cases h)), (fun _ h => (by cases h))⟩ ?_
  rintro m ⟨⟨⟨Al, cl⟩, ts⟩, z, s2⟩ wl frl ⟨rfl, hinv, hcnt, hz65, on2, pl, kl, hco, own, hts, hfine⟩
  dsimp only at hinv hcnt hz65 on2 pl kl hco own hts hfine
  have hown := fun b (e : (Value.slice Al ts.length cl).ownBlock = some b) => own.lt b e
  have klz := kl.size
  have fin : (s2.2 = false → z.toNat = 0) → id (∃ s', LRep fldR wl (fun b => b < w.heap.size) (.slice Al ts.length cl) (ts.map (·.2)) ∧ Rd (lstT (fldT p.l) 256 (by decide)) bs s (ts.map (·.2)) s' ∧ csum cFld (ts.map (·.2)) ≤ (0 + 8) * (s'.1 - s.1) + 8 ∧ (ts.map (·.2)).length ≤ (s'.1 - s.1) + 1 ∧ On s s' ∧ Ir wl h g A c bs p s' ∧ Mod (RS h g) w wl ∧ ∀ x ∈ ts.map (·.2), (fun x : Fld => i64 x.acc) x) := fun hz => by
    obtain ⟨A', c', e', h5, h6, row, ho⟩ := own_slice own
    cases e'
    exact ⟨s2, ⟨Al, cl, ts, by rw [List.length_map], rfl, by rw [List.length_map]; exact h5, h6, by rw [List.length_map]; omega, row, fun a ha _ => ⟨(ho a ha).2.1, by have := (ho a ha).1; omega⟩, fun t ht => fldOk.weak (hts t ht) fun b _ hb => .inl hb⟩, hinv.done hz, hco.le.1, hco.le.2, on2, pl, kl, hfine⟩
  refine if_p (fun hlt => ?_) (fun hge => ?_)
  · replace hlt : 0 < z := hlt
    refine Exists.intro s2.2 (And.intro (cellB pl.blk rfl) ?_)
    refine if_ (fun hz => ?_) (fun hz => ?_)
    · replace hz : s2.2 = false := by simpa using hz
      obtain ⟨k, hk⟩ : ∃ k, z.toNat = k + 1 := ⟨z.toNat - 1, by omega⟩
      rw [hk] at hinv
      have hk' : (z - 1).toNat = k := by omega
      refine call_ (rfld_ok h g A c bs p s2 wl pl hO X (kl.blk hX hXn) hXn) ?_
      rintro e w5 ⟨cs, x, s5, he, hx, rd5, hcost5, hprog5, p5, m5, hfx⟩
      subst he
      have hx0 := hx
      obtain rfl := hx
      refine ⟨_, rfl, ?_⟩
      have m5z := m5.size
      have hnR : ∀ b, w.heap.size ≤ b → ¬ (RS h g) b := fun b hb e => by have := low b e; omega
      have own5 := own_mod m5 own (fun b hb => hnR b (hown b hb).1)
      have n6 := New.alloc w5 (.cells [zi x.acc, strV x.name, strV x.typ].toArray 49)
      refine append2_ ok rfl rfl rfl rfl (own_new n6 own5) rfl rfl (row_alloc w5 [zi x.acc, strV x.name, strV x.typ] _ _) rfl (fldOk.one hx0) (by decide) rfl (by show (ts.length + 1) * 40 ≤ _; omega) (by omega) (Nat.le_trans (by omega) n6.size) ?_
      intro A7 c7 w7 own7 mod7 st7
      have k57 : Mod (fun b => some b = (Value.slice Al ts.length cl).ownBlock) w5 w7 := Mod.trans n6.mod mod7 fun _ _ e => e
      have hl : (ts ++ [([zi x.acc, strV x.name, strV x.typ], x)]).length = ts.length + 1 := by simp
      have st : ∀ b, some b = (Value.slice A7 (ts.length + 1) c7).ownBlock → some b = (Value.slice Al ts.length cl).ownBlock ∨ w5.heap.size ≤ b := fun b e => by
        rcases st7 b e.symm with e | e
        · exact .inl e.symm
        · exact .inr (Nat.le_trans n6.size e)
      have hnew := mem_stepS fldOk hts hx0 m5 low k57 klz (fun b e => hown b e.symm) st
      have pow := q.loc p5 k57 fun b e => (hown _ e.symm).1
      refine ⟨(z - 1).toNat, (((A7, c7), ts ++ [([zi x.acc, strV x.name, strV x.typ], x)]), z - 1, s5), (by dsimp only; omega), ⟨rfl, rfl, (show Value.slice A7 (ts.length + 1) c7 = .slice A7 (ts ++ [([zi x.acc, strV x.name, strV x.typ], x)]).length c7 by rw [hl]), (show zi (IntKind.i64.wrap (z - 1)) = zi (z - 1) by rw [wrap_i64 (by omega) (by omega)]), trivial⟩, rfl, ?_, ?_, by dsimp only; omega, on2.trans hprog5, pow, ?_, ?_, ?_, ?_, ?_⟩
      · dsimp only
        rw [hk', List.map_append]
        exact hinv.step rd5
      · dsimp only
        rw [hl]
        omega
      · exact Mod.trans (both kl m5) k57 fun b hb e => by have := hown b e.symm; omega
      · dsimp only
        rw [List.map_append]
        exact hco.step hinv.1 hz hcost5 hprog5
      · dsimp only
        rw [hl, cellsOf_snoc]
        exact own7
      · dsimp only
        rw [hl]
        exact hnew
      · dsimp only
        intro y hy
        rw [List.map_append, List.mem_append] at hy
        rcases hy with hy | hy
        · exact hfine y hy
        · rw [List.mem_singleton.1 hy]
          exact hfx
    · replace hz : s2.2 = true := by simpa using hz
      exact hK ((Al, cl), ts) _ _ ⟨rfl, trivial⟩ (fin fun h => by rw [hz] at h; cases h)
  · replace hge : ¬ 0 < z := hge
    exact hK ((Al, cl), ts) _ _ ⟨rfl, trivial⟩ (fin fun _ => by omega)
theorem rmth_ok (h g : Nat) (A : Option Addr) (c : Nat) (bs : List UInt8) (p : Po) (s : RSt) (w : World) (q : Ir w h g A c bs p s) (hO : OkPool p.l) (X : Nat) (hX : w.heap[X]? = some (.cells #[.pointer (some ⟨h, 0, none⟩)] 36 (0, 0))) (hXn : ¬ RS h g X) (hm : bs.length ≤ 1000000) :
    Calls Tryz.prog 19 #[.pointer (some ⟨X, 0, none⟩)] w fun e w' => ∃ cs x s', e = .returned (.agg (List.toArray cs)) ∧ mthR w' (fun b => b < w.heap.size) cs x ∧ Rd (mthT p.l) bs s x s' ∧ cMth x ≤ 22 * (s'.1 - s.1) + 58 ∧ On s s' ∧ Ir w' h g A c bs p s' ∧ Mod (RS h g) w w' ∧ i64 x.acc := by
  refine enter ok Tryz.func19 rfl rfl rfl ?_
  obtain ⟨V, hV⟩ : ∃ V, V = w.heap.size := ⟨_, rfl⟩
  have hXw : X < w.heap.size := (Array.getElem?_eq_some_iff.1 hX).1
  refine seq_cut (σ := Unit) (fun _ => [(0, .pointer (some ⟨X, 0, none⟩)), (1, .pointer (some ⟨V, 0, none⟩))]) (fun _ w' => New w w' ∧ w'.heap[V]? = some (.cells #[zi 0, strV [], strV [], zi 0, zi 0, .slice none 0 0, .slice none 0 0, .slice none 0 0] 58 (0, 0))) ?_ ?_
  rotate_left
  · intro K hK
    rw [hV] at hK
    exact hK () _ _ ⟨rfl, rfl, trivial⟩ ⟨New.alloc w _, heap_alloc_new w (.cells #[zi 0, strV [], strV [], zi 0, zi 0, .slice none 0 0, .slice none 0 0, .slice none 0 0] 58)⟩
  rintro _ w0 fr0 ⟨n0, hV0⟩
  have q0 := q.new n0
  have hX0 := n0.blk hX
  have hVn : ∀ b, Iin h g A bs p b → b ≠ V := fun b hb e => by have := q.lt hb; omega
  have hVr : ¬ RS h g V := fun e => by
    rcases e with e | e
    · exact hVn _ (.inr (.inl rfl)) e.symm
    · exact hVn _ (.inl rfl) e.symm
  have hVl : V < w0.heap.size := (Array.getElem?_eq_some_iff.1 hV0).1
  have hz0 := n0.size
  refine seq_cut (σ := Nat × Int) (fun t => [(0, .pointer (some ⟨X, 0, none⟩)), (1, .pointer (some ⟨V, 0, none⟩)), (2, .pointer (some ⟨t.1, 0, none⟩))]) (fun t w' => ∃ s1, Rd Class.n2 bs s t.2 s1 ∧ (0 ≤ t.2 ∧ t.2 < 65536) ∧ On s s1 ∧ Ir w' h g A c bs p s1 ∧ Mod (RS h g) w0 w' ∧ w0.heap.size ≤ t.1 ∧ w'.heap[t.1]? = some (.cells #[zi t.2, strV [], strV [], zi 0, zi 0, .slice none 0 0, .slice none 0 0, .slice none 0 0] 58 (0, 0))) ?_ ?_
  rotate_left
  · intro K hK
    refine Exists.intro (some ⟨h, 0, none⟩) (And.intro (cell0 hX0) ?_)
    refine call_ (u_ok h g A c bs p s 2 Pool.w2 w0 q0) ?_
    rintro e w1 ⟨n, s1, rfl, r1, hb1, hp1, q1, m1⟩
    refine ⟨_, rfl, ?_⟩
    refine And.intro rfl ?_
    refine storeNew (vs := [zi n, strV [], strV [], zi 0, zi 0, .slice none 0 0, .slice none 0 0, .slice none 0 0]) (arr := #[zi 0, strV [], strV [], zi 0, zi 0, .slice none 0 0, .slice none 0 0, .slice none 0 0]) rfl (one_rmth _ [] [] _ _ _ _ _ _ _ _ _ _ _) ?_
    intro w2 hb2 n2 s2
    exact hK (w1.heap.size, n) _ _ ⟨rfl, rfl, rfl, trivial⟩ ⟨s1, r1, hb1, hp1, q1.new n2, both m1 n2.mod, m1.size, hb2⟩
  rintro ⟨E, n1⟩ w1 fr1 ⟨s1, r1, hb1, o1, q1, m1, hEw, hE1⟩
  dsimp only at r1 hb1 hEw hE1
  have hz1 := m1.size
  have hE0 : ∀ b, Iin h g A bs p b → b ≠ E := fun b hb e => by have := q0.lt hb; omega
  have hEr : ¬ RS h g E := fun e => by
    rcases e with e | e
    · exact hE0 _ (.inr (.inl rfl)) e.symm
    · exact hE0 _ (.inl rfl) e.symm
  have hX1 := m1.blk hX0 hXn
  have hV1 := m1.blk hV0 hVr
  have hrs1 : ∀ b, RS h g b → b < w.heap.size := fun b e => q.lt (by rcases e with e | e; exact .inr (.inl e); exact .inl e)
  refine seq_cut (σ := List UInt8) (fun _ => [(0, .pointer (some ⟨X, 0, none⟩)), (1, .pointer (some ⟨V, 0, none⟩)), (2, .pointer (some ⟨E, 0, none⟩))]) (fun z w' => ∃ s', Rd (utfT p.l) bs s1 z s' ∧ On s1 s' ∧ Ir w' h g A c bs p s' ∧ Mod (fun b => RS h g b ∨ b = E) w1 w' ∧ w'.heap[X]? = some (.cells #[.pointer (some ⟨h, 0, none⟩)] 36 (0, 0)) ∧ w'.heap[V]? = some (.cells #[zi 0, strV [], strV [], zi 0, zi 0, .slice none 0 0, .slice none 0 0, .slice none 0 0] 58 (0, 0)) ∧ w'.heap[E]? = some (.cells #[zi n1, strV z, strV [], zi 0, zi 0, .slice none 0 0, .slice none 0 0, .slice none 0 0] 58 (0, 0))) ?_ ?_
  rotate_left
  · intro K hK
    refine Exists.intro (some ⟨h, 0, none⟩) (And.intro (cell0 hX1) ?_)
    refine call_ (rtext_ok h g A c bs p s1 w1 q1 hO) ?_
    rintro e wa ⟨z, sa, rfl, ra, hpa, qa, ma⟩
    refine ⟨_, rfl, ?_⟩
    have hEa := ma.blk hE1 hEr
    refine And.intro ⟨_, cellB hEa rfl⟩ (And.intro (fzB hEa _) (force_ ?_))
    refine stK hEa (show (1 : Nat) < 8 by decide) ?_
    intro wb hEb mb sb
    exact hK z _ _ ⟨rfl, rfl, rfl, trivial⟩ ⟨sa, ra, hpa, qa.modN mb (fun b hb e => hE0 b hb e), Mod.trans (ma.mono fun _ _ e => .inl e) mb fun _ _ e => .inr e, mb.blk (ma.blk hX1 hXn) (show ¬ X = E by omega), mb.blk (ma.blk hV1 hVr) (show ¬ V = E by omega), hEb⟩
  rintro z1 w2 fr2 ⟨s2, r2, o2, q2, m2, hX2, hV2, hE2⟩
  have hz2 := m2.size
  refine seq_cut (σ := List UInt8) (fun _ => [(0, .pointer (some ⟨X, 0, none⟩)), (1, .pointer (some ⟨V, 0, none⟩)), (2, .pointer (some ⟨E, 0, none⟩))]) (fun z w' => ∃ s', Rd (utfT p.l) bs s2 z s' ∧ On s2 s' ∧ Ir w' h g A c bs p s' ∧ Mod (fun b => RS h g b ∨ b = E) w2 w' ∧ w'.heap[X]? = some (.cells #[.pointer (some ⟨h, 0, none⟩)] 36 (0, 0)) ∧ w'.heap[V]? = some (.cells #[zi 0, strV [], strV [], zi 0, zi 0, .slice none 0 0, .slice none 0 0, .slice none 0 0] 58 (0, 0)) ∧ w'.heap[E]? = some (.cells #[zi n1, strV z1, strV z, zi 0, zi 0, .slice none 0 0, .slice none 0 0, .slice none 0 0] 58 (0, 0))) ?_ ?_
  rotate_left
  · intro K hK
    refine Exists.intro (some ⟨h, 0, none⟩) (And.intro (cell0 hX2) ?_)
    refine call_ (rtext_ok h g A c bs p s2 w2 q2 hO) ?_
    rintro e wa ⟨z, sa, rfl, ra, hpa, qa, ma⟩
    refine ⟨_, rfl, ?_⟩
    have hEa := ma.blk hE2 hEr
    refine And.intro ⟨_, cellB hEa rfl⟩ (And.intro (fzB hEa _) (force_ ?_))
    refine stK hEa (show (2 : Nat) < 8 by decide) ?_
    intro wb hEb mb sb
    exact hK z _ _ ⟨rfl, rfl, rfl, trivial⟩ ⟨sa, ra, hpa, qa.modN mb (fun b hb e => hE0 b hb e), Mod.trans (ma.mono fun _ _ e => .inl e) mb fun _ _ e => .inr e, mb.blk (ma.blk hX2 hXn) (show ¬ X = E by omega), mb.blk (ma.blk hV2 hVr) (show ¬ V = E by omega), hEb⟩
  rintro z2 w3 fr3 ⟨s3, r3, o3, q3, m3, hX3, hV3, hE3⟩
  have hz3 := m3.size
  refine seq_cut (σ := Int) (fun _ => [(0, .pointer (some ⟨X, 0, none⟩)), (1, .pointer (some ⟨V, 0, none⟩)), (2, .pointer (some ⟨E, 0, none⟩))]) (fun n w' => ∃ s', Rd Class.n2 bs s3 n s' ∧ On s3 s' ∧ Ir w' h g A c bs p s' ∧ Mod (RS h g) w3 w') ?_ ?_
  rotate_left
  · intro K hK
    refine Exists.intro (some ⟨h, 0, none⟩) (And.intro (cell0 hX3) ?_)
    refine call_ (u_ok h g A c bs p s3 2 Pool.w2 w3 q3) ?_
    rintro e wa ⟨na, sa, rfl, ra, hba, hpa, qa, ma⟩
    refine ⟨_, rfl, ?_⟩
    exact hK na _ _ ⟨rfl, rfl, rfl, trivial⟩ ⟨sa, ra, hpa, qa, ma⟩
  rintro k4 w4 fr4 ⟨s4, r4, o4, q4, m4'⟩
  have hX4 := m4'.blk hX3 hXn
  have hV4 := m4'.blk hV3 hVr
  have hE4 := m4'.blk hE3 hEr
  have m4 := m4'.mono (show ∀ b, b < w3.heap.size → RS h g b → RS h g b ∨ b = E from fun _ _ e => .inl e)
  have hz4 := m4.size
  refine seq_cut (σ := Int) (fun _ => [(0, .pointer (some ⟨X, 0, none⟩)), (1, .pointer (some ⟨V, 0, none⟩)), (2, .pointer (some ⟨E, 0, none⟩))]) (fun n w' => ∃ s', Rd Class.n2 bs s4 n s' ∧ On s4 s' ∧ Ir w' h g A c bs p s' ∧ Mod (RS h g) w4 w') ?_ ?_
  rotate_left
  · intro K hK
    refine Exists.intro (some ⟨h, 0, none⟩) (And.intro (cell0 hX4) ?_)
    refine call_ (u_ok h g A c bs p s4 2 Pool.w2 w4 q4) ?_
    rintro e wa ⟨na, sa, rfl, ra, hba, hpa, qa, ma⟩
    refine ⟨_, rfl, ?_⟩
    exact hK na _ _ ⟨rfl, rfl, rfl, trivial⟩ ⟨sa, ra, hpa, qa, ma⟩
  rintro k5 w5 fr5 ⟨s5, r5, o5, q5, m5'⟩
  have hX5 := m5'.blk hX4 hXn
  have hV5 := m5'.blk hV4 hVr
  have hE5 := m5'.blk hE4 hEr
  have m5 := m5'.mono (show ∀ b, b < w4.heap.size → RS h g b → RS h g b ∨ b = E from fun _ _ e => .inl e)
  have hz5 := m5.size
  refine seq_cut (σ := ((Option Addr × Nat) × (Option Addr × Nat) × (Option Addr × Nat)) × Cod) (fun _ => [(0, .pointer (some ⟨X, 0, none⟩)), (1, .pointer (some ⟨V, 0, none⟩)), (2, .pointer (some ⟨E, 0, none⟩))]) (fun t w' => ∃ s', Rd (partT (codT p.l)) bs s5 t.2 s' ∧ cCod t.2 ≤ 22 * (s'.1 - s5.1) + 44 ∧ On s5 s' ∧ LRep u8R w' (fun b => b < w5.heap.size) (.slice t.1.1.1 t.2.bytes.length t.1.1.2) t.2.bytes ∧ LRep hndR w' (fun b => b < w5.heap.size) (.slice t.1.2.1.1 t.2.hands.length t.1.2.1.2) t.2.hands ∧ LRep mpR w' (fun b => b < w5.heap.size) (.slice t.1.2.2.1 t.2.maps.length t.1.2.2.2) t.2.maps ∧ Ir w' h g A c bs p s' ∧ Mod (fun b => RS h g b ∨ b = E) w5 w' ∧ w'.heap[V]? = some (.cells #[zi 0, strV [], strV [], zi 0, zi 0, .slice none 0 0, .slice none 0 0, .slice none 0 0] 58 (0, 0)) ∧ w'.heap[E]? = some (.cells #[zi n1, strV z1, strV z2, zi (t.2.stack), zi (t.2.locals), .slice t.1.1.1 t.2.bytes.length t.1.1.2, .slice t.1.2.1.1 t.2.hands.length t.1.2.1.2, .slice t.1.2.2.1 t.2.maps.length t.1.2.2.2] 58 (0, 0))) ?_ ?_
  rotate_left
  · intro K hK
    refine Exists.intro (some ⟨h, 0, none⟩) (And.intro (cell0 hX5) ?_)
    refine call_ (rcode_ok h g A c bs p s5 w5 q5 hO hm) ?_
    rintro e wa ⟨_, d, sa, rfl, ⟨_, _, _, rfl, l0, l1, l2⟩, ra, ca, hpa, qa, ma⟩
    obtain ⟨A0, c0, rfl, _⟩ := l0.get u8Ok (by decide)
    obtain ⟨A1, c1, rfl, _⟩ := l1.get hndOk (by decide)
    obtain ⟨A2, c2, rfl, _⟩ := l2.get mpOk (by decide)
    refine ⟨_, rfl, ?_⟩
    have hEa := ma.blk hE5 hEr
    refine And.intro rfl ?_
    have hEl : E < w5.heap.size := (Array.getElem?_eq_some_iff.1 hE5).1
    refine storeN_atX (g := E) (j := 3) (vs := [zi d.stack, zi d.locals, .slice A0 d.bytes.length c0, .slice A1 d.hands.length c1, .slice A2 d.maps.length c2]) rfl hEa (by simp) (ones5 _ _ _ _ _ _ _ _ _ _ _) ?_
    intro wb hEb mb sb
    exact hK (((A0, c0), (A1, c1), (A2, c2)), d) _ _ ⟨rfl, rfl, rfl, trivial⟩ ⟨sa, ra, ca, hpa, LRep.mod u8Ok (by decide) l0 (mb.mono fun b _ e => by omega), LRep.mod hndOk (by decide) l1 (mb.mono fun b _ e => by omega), LRep.mod mpOk (by decide) l2 (mb.mono fun b _ e => by omega), qa.modN mb (fun b hb e => hE0 b hb e), Mod.trans (ma.mono fun _ _ e => .inl e) mb fun _ _ e => .inr e, mb.blk (ma.blk hV5 hVr) (show ¬ V = E by omega), hEb⟩
  rintro ⟨⟨⟨A0, c0⟩, ⟨A1, c1⟩, ⟨A2, c2⟩⟩, d⟩ w6 fr6 ⟨s6, r6, cd, o6, l0, l1, l2, q6, m6, hV6, hE6⟩
  dsimp only at r6 cd l0 l1 l2 hE6
  have hz6 := m6.size
  refine loadN_row (vs := [zi n1, strV z1, strV z2, zi d.stack, zi d.locals, .slice A0 d.bytes.length c0, .slice A1 d.hands.length c1, .slice A2 d.maps.length c2]) (rowB hE6) rfl ?_
  refine And.intro rfl ?_
  refine storeN_all (vs := [zi n1, strV z1, strV z2, zi d.stack, zi d.locals, .slice A0 d.bytes.length c0, .slice A1 d.hands.length c1, .slice A2 d.maps.length c2]) hV6 rfl (one_rmth _ _ _ _ _ _ _ _ _ _ _ _ _ _) ?_
  intro wf hbf mf sf
  refine loadN_row (vs := [zi n1, strV z1, strV z2, zi d.stack, zi d.locals, .slice A0 d.bytes.length c0, .slice A1 d.hands.length c1, .slice A2 d.maps.length c2]) (rowB hbf) rfl ?_
  have lf : ∀ {α : Type} {R : RepT α} {n : Nat} {v : Value} {xs : List α}, RepOk R n → 0 < n → LRep R w6 (fun b => b < w5.heap.size) v xs → LRep R wf (fun b => b < w.heap.size) v xs := fun k hn l => LRep.weak k (LRep.mod k hn l (mf.mono fun b _ e => by omega)) fun b _ e => by omega
  refine ⟨_, ⟨n1, z1, z2, d⟩, s6, rfl, ⟨_, _, _, rfl, lf u8Ok (by decide) l0, lf hndOk (by decide) l1, lf mpOk (by decide) l2⟩, ?_, ?_, o1.trans (o2.trans (o3.trans (o4.trans (o5.trans (o6))))), q6.modN mf (fun b hb e => hVn b hb e), Mod.trans (Mod.trans (Mod.trans n0.mod m1 fun _ _ e => e) (both (both (both (both (m2) m3) m4) m5) m6) fun b hb e => e.elim id fun e => by omega) mf fun b hb e => by omega, by unfold i64; dsimp only; omega⟩
  · exact RdS.byP (f := fun m : Mth => (m.acc, m.name, m.typ, 1, codeS, m.code)) (y := ⟨n1, z1, z2, d⟩) (RdS.seq (r1.S fun _ => True) (RdS.seq (r2.S fun _ => True) (RdS.seq (r3.S fun _ => True) (RdS.seq (RdS.num (m := 1) r4) (RdS.seq (RdS.utf (z := codeS) r5) (r6.S fun _ => True)))))) (fun z hz => ⟨trivial, trivial, trivial, rfl, rfl, trivial⟩) (fun z e => by cases z; cases e; rfl)
  · have b1 := o1.1
    have b2 := o2.1
    have b3 := o3.1
    have b4 := o4.1
    have b5 := o5.1
    have b6 := o6.1
    show 14 + cCod d ≤ _
    omega

theorem members_mth (h g : Nat) (A : Option Addr) (c : Nat) (bs : List UInt8) (p : Po) (s : RSt) (w : World) (q : Ir w h g A c bs p s) (hO : OkPool p.l) (X : Nat) (hX : w.heap[X]? = some (.cells #[.pointer (some ⟨h, 0, none⟩)] 36 (0, 0))) (hXn : ¬ RS h g X) (hm : bs.length ≤ 1000000) :
    Calls Tryz.prog 18 #[.pointer (some ⟨h, 0, none⟩), .func (.func 19) #[] #[.pointer (some ⟨X, 0, none⟩)]] w fun e w' => ∃ v xs s', e = .returned v ∧ LRep mthR w' (fun b => b < w.heap.size) v xs ∧ Rd (lstT (mthT p.l) 256 (by decide)) bs s xs s' ∧ csum cMth xs ≤ (22 + 58) * (s'.1 - s.1) + 58 ∧ xs.length ≤ (s'.1 - s.1) + 1 ∧ On s s' ∧ Ir w' h g A c bs p s' ∧ Mod (RS h g) w w' ∧ ∀ x ∈ xs, (fun x : Mth => i64 x.acc) x := by
  refine enter ok Tryz.func18 rfl rfl rfl ?_
  have low : ∀ b, (RS h g) b → b < w.heap.size := fun b e => q.lt (by rcases e with e | e; exact .inr (.inl e); exact .inl e)
  refine seq_assign ?_
  refine seq_assign ?_
  refine seq_cut (σ := (Option Addr × Nat) × List (List Value × Mth)) (fun t => [(5, .slice t.1.1 t.2.length t.1.2)]) (fun t w' => ∃ s', LRep mthR w' (fun b => b < w.heap.size) (.slice t.1.1 t.2.length t.1.2) (t.2.map (·.2)) ∧ Rd (lstT (mthT p.l) 256 (by decide)) bs s (t.2.map (·.2)) s' ∧ csum cMth (t.2.map (·.2)) ≤ (22 + 58) * (s'.1 - s.1) + 58 ∧ (t.2.map (·.2)).length ≤ (s'.1 - s.1) + 1 ∧ On s s' ∧ Ir w' h g A c bs p s' ∧ Mod (RS h g) w w' ∧ ∀ x ∈ t.2.map (·.2), (fun x : Mth => i64 x.acc) x) ?_ ?_
  · rintro t w1 fr1 ⟨s', h1, h2, h3, h4, h5, h6, h8, h7⟩
    exact ⟨_, _, s', rfl, h1, h2, h3, h4, h5, h6, h8, h7⟩
  intro K hK
  refine seq_cut (σ := Int) (fun n => [(0, .pointer (some ⟨h, 0, none⟩)), (1, .func (.func 19) #[] #[.pointer (some ⟨X, 0, none⟩)]), (5, .slice none 0 0), (6, zi n)]) (fun n w' => ∃ s1, Rd n2 bs s n s1 ∧ (0 ≤ n ∧ n < 65536) ∧ On s s1 ∧ Ir w' h g A c bs p s1 ∧ Mod (RS h g) w w' ∧ Mod (RS h g) w w') ?_ ?_
  rotate_left
  · intro K2 hK2
    refine call_ (u_ok h g A c bs p s 2 Pool.w2 w q) ?_
    rintro e w1 ⟨n, s1, rfl, rd1, hb, o1, p1, m1⟩
    refine ⟨_, rfl, ?_⟩
    exact hK2 n _ _ ⟨rfl, rfl, rfl, rfl, trivial⟩ ⟨s1, rd1, hb, o1, p1, m1.mono fun b hb e => e, m1⟩
  rintro n w1 fr1 ⟨s1, rd1, hn, o1, p1, m1, m1'⟩
  refine den_loop (σ := ((Option Addr × Nat) × List (List Value × Mth)) × Int × RSt) (fun t => [(0, .pointer (some ⟨h, 0, none⟩)), (1, .func (.func 19) #[] #[.pointer (some ⟨X, 0, none⟩)]), (5, .slice t.1.1.1 t.1.2.length t.1.1.2), (6, zi t.2.1)])
    (fun m t wl => m = t.2.1.toNat ∧ LRd (mthT p.l) 256 bs s (t.1.2.map (·.2)) t.2.1.toNat t.2.2 ∧ t.2.1.toNat + t.1.2.length ≤ 65536 ∧ t.2.1 ≤ 65536 ∧ On s t.2.2 ∧ Ir wl h g A c bs p t.2.2 ∧ Mod (RS h g) w wl ∧ LCo cMth 22 58 s (t.1.2.map (·.2)) t.2.2 ∧ wl.ownsRow w.heap.size 58 8 (.slice t.1.1.1 t.1.2.length t.1.1.2) t.1.2.length (cellsOf t.1.2) ∧
      (∀ y ∈ t.1.2, mthR wl (fun b => b < w.heap.size ∨ some b = (Value.slice t.1.1.1 t.1.2.length t.1.1.2).ownBlock) y.1 y.2) ∧ ∀ x ∈ t.1.2.map (·.2), (fun x : Mth => i64 x.acc) x) n.toNat (((none, 0), []), n, s1)
    ⟨rfl, rfl, rfl, rfl, trivial⟩ ⟨rfl, LRd.start (by decide) rd1, by simp; omega, by dsimp only; omega, o1, p1, m1, LCo.start, ⟨rfl, .inl ⟨rfl, rfl⟩⟩, (fun _ h => (by cases h)), (fun _ h => (by cases h))⟩ ?_
  rintro m ⟨⟨⟨Al, cl⟩, ts⟩, z, s2⟩ wl frl ⟨rfl, hinv, hcnt, hz65, on2, pl, kl, hco, own, hts, hfine⟩
  dsimp only at hinv hcnt hz65 on2 pl kl hco own hts hfine
  have hown := fun b (e : (Value.slice Al ts.length cl).ownBlock = some b) => own.lt b e
  have klz := kl.size
  have fin : (s2.2 = false → z.toNat = 0) → id (∃ s', LRep mthR wl (fun b => b < w.heap.size) (.slice Al ts.length cl) (ts.map (·.2)) ∧ Rd (lstT (mthT p.l) 256 (by decide)) bs s (ts.map (·.2)) s' ∧ csum cMth (ts.map (·.2)) ≤ (22 + 58) * (s'.1 - s.1) + 58 ∧ (ts.map (·.2)).length ≤ (s'.1 - s.1) + 1 ∧ On s s' ∧ Ir wl h g A c bs p s' ∧ Mod (RS h g) w wl ∧ ∀ x ∈ ts.map (·.2), (fun x : Mth => i64 x.acc) x) := fun hz => by
    obtain ⟨A', c', e', h5, h6, row, ho⟩ := own_slice own
    cases e'
    exact ⟨s2, ⟨Al, cl, ts, by rw [List.length_map], rfl, by rw [List.length_map]; exact h5, h6, by rw [List.length_map]; omega, row, fun a ha _ => ⟨(ho a ha).2.1, by have := (ho a ha).1; omega⟩, fun t ht => mthOk.weak (hts t ht) fun b _ hb => .inl hb⟩, hinv.done hz, hco.le.1, hco.le.2, on2, pl, kl, hfine⟩
  refine if_p (fun hlt => ?_) (fun hge => ?_)
  · replace hlt : 0 < z := hlt
    refine Exists.intro s2.2 (And.intro (cellB pl.blk rfl) ?_)
    refine if_ (fun hz => ?_) (fun hz => ?_)
    · replace hz : s2.2 = false := by simpa using hz
      obtain ⟨k, hk⟩ : ∃ k, z.toNat = k + 1 := ⟨z.toNat - 1, by omega⟩
      rw [hk] at hinv
      have hk' : (z - 1).toNat = k := by omega
      refine call_ (rmth_ok h g A c bs p s2 wl pl hO X (kl.blk hX hXn) hXn hm) ?_
      rintro e w5 ⟨cs, x, s5, he, hx, rd5, hcost5, hprog5, p5, m5, hfx⟩
      subst he
      have hx0 := hx
      obtain ⟨_, _, _, rfl, lx1, lx2, lx3⟩ := hx
      obtain ⟨Ax1, cx1, rfl, _⟩ := lx1.get u8Ok (by decide)
      obtain ⟨Ax2, cx2, rfl, _⟩ := lx2.get hndOk (by decide)
      obtain ⟨Ax3, cx3, rfl, _⟩ := lx3.get mpOk (by decide)
      refine ⟨_, rfl, ?_⟩
      have m5z := m5.size
      have hnR : ∀ b, w.heap.size ≤ b → ¬ (RS h g) b := fun b hb e => by have := low b e; omega
      have own5 := own_mod m5 own (fun b hb => hnR b (hown b hb).1)
      have n6 := New.alloc w5 (.cells [zi x.acc, strV x.name, strV x.typ, zi x.code.stack, zi x.code.locals, .slice Ax1 x.code.bytes.length cx1, .slice Ax2 x.code.hands.length cx2, .slice Ax3 x.code.maps.length cx3].toArray 58)
      refine append2_ ok rfl rfl rfl rfl (own_new n6 own5) rfl rfl (row_alloc w5 [zi x.acc, strV x.name, strV x.typ, zi x.code.stack, zi x.code.locals, .slice Ax1 x.code.bytes.length cx1, .slice Ax2 x.code.hands.length cx2, .slice Ax3 x.code.maps.length cx3] _ _) rfl (mthOk.one hx0) (by decide) rfl (by show (ts.length + 1) * 128 ≤ _; omega) (by omega) (Nat.le_trans (by omega) n6.size) ?_
      intro A7 c7 w7 own7 mod7 st7
      have k57 : Mod (fun b => some b = (Value.slice Al ts.length cl).ownBlock) w5 w7 := Mod.trans n6.mod mod7 fun _ _ e => e
      have hl : (ts ++ [([zi x.acc, strV x.name, strV x.typ, zi x.code.stack, zi x.code.locals, .slice Ax1 x.code.bytes.length cx1, .slice Ax2 x.code.hands.length cx2, .slice Ax3 x.code.maps.length cx3], x)]).length = ts.length + 1 := by simp
      have st : ∀ b, some b = (Value.slice A7 (ts.length + 1) c7).ownBlock → some b = (Value.slice Al ts.length cl).ownBlock ∨ w5.heap.size ≤ b := fun b e => by
        rcases st7 b e.symm with e | e
        · exact .inl e.symm
        · exact .inr (Nat.le_trans n6.size e)
      have hnew := mem_stepS mthOk hts hx0 m5 low k57 klz (fun b e => hown b e.symm) st
      have pow := q.loc p5 k57 fun b e => (hown _ e.symm).1
      refine ⟨(z - 1).toNat, (((A7, c7), ts ++ [([zi x.acc, strV x.name, strV x.typ, zi x.code.stack, zi x.code.locals, .slice Ax1 x.code.bytes.length cx1, .slice Ax2 x.code.hands.length cx2, .slice Ax3 x.code.maps.length cx3], x)]), z - 1, s5), (by dsimp only; omega), ⟨rfl, rfl, (show Value.slice A7 (ts.length + 1) c7 = .slice A7 (ts ++ [([zi x.acc, strV x.name, strV x.typ, zi x.code.stack, zi x.code.locals, .slice Ax1 x.code.bytes.length cx1, .slice Ax2 x.code.hands.length cx2, .slice Ax3 x.code.maps.length cx3], x)]).length c7 by rw [hl]), (show zi (IntKind.i64.wrap (z - 1)) = zi (z - 1) by rw [wrap_i64 (by omega) (by omega)]), trivial⟩, rfl, ?_, ?_, by dsimp only; omega, on2.trans hprog5, pow, ?_, ?_, ?_, ?_, ?_⟩
      · dsimp only
        rw [hk', List.map_append]
        exact hinv.step rd5
      · dsimp only
        rw [hl]
        omega
      · exact Mod.trans (both kl m5) k57 fun b hb e => by have := hown b e.symm; omega
      · dsimp only
        rw [List.map_append]
        exact hco.step hinv.1 hz hcost5 hprog5
      · dsimp only
        rw [hl, cellsOf_snoc]
        exact own7
      · dsimp only
        rw [hl]
        exact hnew
      · dsimp only
        intro y hy
        rw [List.map_append, List.mem_append] at hy
        rcases hy with hy | hy
        · exact hfine y hy
        · rw [List.mem_singleton.1 hy]
          exact hfx
    · replace hz : s2.2 = true := by simpa using hz
      exact hK ((Al, cl), ts) _ _ ⟨rfl, trivial⟩ (fin fun h => by rw [hz] at h; cases h)
  · replace hge : ¬ 0 < z := hge
    exact hK ((Al, cl), ts) _ _ ⟨rfl, trivial⟩ (fin fun _ => by omega)

end Go.Proofs.YtdcaafldnbcdkaaGreatDoor.Class

/-! ### PReadP -/
namespace Go.Proofs.YtdcaafldnbcdkaaGreatDoor.Pool
open Go Go.Proofs.YtdcaafldnbcdkaaGreatDoor Go.Proofs.YtdcaafldnbcdkaaGreatDoor.Eng Go.Proofs Go.Proofs.YtdcaafldnbcdkaaGreatDoor.Word
set_option maxRecDepth 10000

theorem loopR_stop {bs : List UInt8} {n : Int} {f : Nat} {acc : List Ent} {s : Nat × Int} (h : ¬ ((acc.length : Int) < n ∧ s.2 = 0)) : loopR bs n f acc s = (acc, s) := by
  cases f with
  | zero => rfl
  | succ f => unfold loopR; rw [if_neg h]
theorem loopR_step {bs : List UInt8} {n : Int} {f : Nat} {acc : List Ent} {s : Nat × Int} (h : (acc.length : Int) < n ∧ s.2 = 0) : loopR bs n (f + 1) acc s = loopR bs n f (acc ++ (entR bs s).1 :: tailOf (entR bs s).1) (entR bs s).2 := by
  rw [loopR, if_pos h]
def ReadOk (w : World) (g : Nat) (A : Option Addr) (c : Nat) (bs : List UInt8) (i : Nat) (e : Ending) (w' : World) : Prop :=
  ∃ v l j er, readR bs i = (l, j, er) ∧ e = .returned (.tuple #[v, .int .i64 er]) ∧ w'.ownsRow w.heap.size 85 5 v l.length (l.map entC).flatten ∧ (∀ x ∈ l, EntOk x) ∧ Rd w' g A c bs j ∧ Mod (fun b => b = g) w w'
theorem Read_ok (g : Nat) (A : Option Addr) (c : Nat) (bs : List UInt8) (i : Nat) (w : World) (h : Rd w g A c bs i) (hm : bs.length ≤ 140737488355328) :
    Calls Tryz.prog 12 #[.pointer (some ⟨g, 0, none⟩)] w (ReadOk w g A c bs i) := by
  refine enter ok Tryz.func12 rfl rfl rfl ?_
  have n0 := New.alloc w (.cells #[.pointer (some ⟨g, 0, none⟩), .int .i64 0] 82)
  have hb0 := heap_alloc_new w (.cells #[.pointer (some ⟨g, 0, none⟩), .int .i64 0] 82)
  have sz0 : (w.alloc (.cells #[.pointer (some ⟨g, 0, none⟩), .int .i64 0] 82)).heap.size = w.heap.size + 1 := by simp
  have hlow := rd_low h
  have hg := h.lt
  have p0 : Pr (w.alloc (.cells #[.pointer (some ⟨g, 0, none⟩), .int .i64 0] 82)) w.heap.size g A c bs (i, 0) := ⟨hb0, h.new n0, by omega, fun a ha hn => by have := hlow a ha hn; omega⟩
  have fail : ∀ (s : Nat × Int) (er : Int) w', readR bs i = ([], s.1, er) → Pr w' w.heap.size g A c bs s → Mod (fun b => b = g) w w' → ReadOk w g A c bs i (.returned (.tuple #[.slice none 0 0, .int .i64 er])) w' := fun s er w' hr p m =>
    ⟨_, [], s.1, er, hr, rfl, ⟨rfl, .inl ⟨rfl, rfl⟩⟩, (fun _ h => by cases h), p.rd, m⟩
  refine call_ (number_ok w.heap.size g A c bs (i, 0) 2 false (w.alloc (.cells #[.pointer (some ⟨g, 0, none⟩), .int .i64 0] 82)) p0) ?_
  rintro e w1 ⟨rfl, p1, m1⟩
  refine ⟨_, rfl, ?_⟩
  have k1 : Mod (fun b => b = g) w w1 := Mod.trans n0.mod m1 fun b hb e => by rcases e with e | e <;> omega
  have s1 := m1.size
  have hR : readR bs i = if (numR bs false 2 (i, 0)).2.2 ≠ 0 then ([], (numR bs false 2 (i, 0)).2)
    else if (numR bs false 2 (i, 0)).1 < 1 ∨ 1024 < (numR bs false 2 (i, 0)).1 then ([], (numR bs false 2 (i, 0)).2.1, 70)
    else readEnd (numR bs false 2 (i, 0)).1 (loopR bs (numR bs false 2 (i, 0)).1 (numR bs false 2 (i, 0)).1.toNat [e0] (numR bs false 2 (i, 0)).2) := rfl
  generalize numR bs false 2 (i, 0) = q at hR p1
  obtain ⟨n, s⟩ := q
  simp only at hR p1
  refine Exists.intro s.2 (And.intro (cellB p1.blk rfl) ?_)
  refine if_n (fun hne => ?_) (fun h0 => ?_)
  · rw [if_pos (show s.2 ≠ 0 from hne)] at hR
    refine draw_ (w := w1) ok (.q 0 (.q 1 (.q 2 (.q 3 (.q 4 (.q 5 .done)))))) [5] (New w1) (by kernel_rfl) (by kernel_rfl) (by kernel_rfl) (by kernel_rfl) (by kernel_rfl) (New.drew _) ?_
    refine Exists.intro s.2 (And.intro (fun w'' hw => cellB (hw.blk p1.blk) rfl) ?_)
    exact fail s s.2 _ hR (p1.new (New.drew _)) (k1.trans (New.drew _) (fun _ _ e => False.elim e))
  rw [if_neg (show ¬ s.2 ≠ 0 from fun hc => hc h0)] at hR
  refine if_p (fun hlt => ?_) (fun hge => ?_)
  · rw [if_pos (.inl hlt)] at hR
    exact fail s 70 _ hR p1 k1
  refine if_p (fun hgt => ?_) (fun hle => ?_)
  · rw [if_pos (.inr hgt)] at hR
    exact fail s 70 _ hR p1 k1
  replace hge : ¬ n < 1 := hge
  replace hle : ¬ 1024 < n := hle
  rw [if_neg (by omega)] at hR
  have n2 := New.alloc w1 (.cells (entC e0).toArray 85)
  have own2 := own_lit w1 (entC e0) 85 5 1 (w.heap.size + 1) (by omega) rfl (by omega)
  refine den_loop (σ := (Option Addr × Nat) × List Ent × Nat × Int) (fun t => [(4, .pointer (some ⟨w.heap.size, 0, none⟩)), (5, .int .i64 n), (6, .slice t.1.1 t.2.1.length t.1.2)])
    (fun m t wl => loopR bs n m t.2.1 t.2.2 = loopR bs n n.toNat [e0] s ∧ n ≤ (t.2.1.length : Int) + m ∧ t.2.1.length ≤ 1026 ∧ Pr wl w.heap.size g A c bs t.2.2 ∧ Mod (fun b => b = g) w wl ∧ w.heap.size + 1 ≤ wl.heap.size ∧
      wl.ownsRow (w.heap.size + 1) 85 5 (.slice t.1.1 t.2.1.length t.1.2) t.2.1.length (t.2.1.map entC).flatten ∧ ∀ x ∈ t.2.1, EntOk x) n.toNat ((some ⟨w1.heap.size, 0, none⟩, 1), [e0], s)
    ⟨rfl, rfl, rfl, trivial⟩ ⟨rfl, by simp only; omega, by simp, p1.new n2, k1.trans n2 (fun _ _ e => False.elim e), Nat.le_trans (by omega) n2.size, own2, fun x hx => by rw [List.mem_singleton.1 hx]; exact ok_e0⟩ ?_
  rintro m ⟨⟨Al, cl⟩, acc, s'⟩ wl fr0 ⟨hloop, hfuel, hacc, pl, kl, hsl, own, oks⟩
  dsimp only at hloop hfuel hacc pl own oks
  have hown := fun b (e : (Value.slice Al acc.length cl).ownBlock = some b) => own.lt b e
  have herr : ∀ (hne : s'.2 ≠ 0), ReadOk w g A c bs i (.returned (.tuple #[.slice none 0 0, .int .i64 s'.2])) wl.drew := fun hne => by
    rw [← hloop, loopR_stop (fun h => hne h.2)] at hR
    unfold readEnd at hR
    rw [if_pos (show (acc, s').2.2 ≠ 0 from hne)] at hR
    exact fail s' s'.2 _ hR (pl.new (New.drew _)) (kl.trans (New.drew _) (fun _ _ e => False.elim e))
  refine if_p (fun hlt => ?_) (fun hge => ?_)
  · replace hlt : (acc.length : Int) < n := hlt
    refine Exists.intro s'.2 (And.intro (cellB pl.blk rfl) ?_)
    refine if_p (fun hz => ?_) (fun hz => ?_)
    · replace hz : s'.2 = 0 := hz
      cases m with
      | zero => omega
      | succ m =>
      rw [loopR_step ⟨hlt, hz⟩] at hloop
      refine call_ (entry_ok w.heap.size g A c bs s' wl pl hm) ?_
      rintro e w4 ⟨rfl, p4, m4⟩
      refine ⟨_, rfl, ?_⟩
      have hx := (entR_ok bs s' pl.rd.at_ (by omega)).1
      generalize entR bs s' = q at hloop p4 hx
      obtain ⟨x, s4⟩ := q
      dsimp only at hloop p4 hx
      have k4 : Mod (fun b => b = g) w w4 := Mod.trans kl m4 fun b hb e => by rcases e with e | e <;> omega
      have s4z := m4.size
      have own4 := own_mod m4 own (fun b hb e => by have := hown b hb; rcases e with e | e <;> omega)
      refine And.intro rfl ?_
      refine storeNew (vs := entC x) (arr := entZ) rfl (entC_one _) ?_
      intro w5 hb5 n5 s5
      have k5 : Mod (fun b => b = g) w w5 := k4.trans n5 (fun _ _ e => False.elim e)
      refine loadN_row (vs := entC x) (rowB hb5) rfl ?_
      have n6 := New.alloc w5 (.cells (entC x).toArray 85)
      have row6 : Row (w5.alloc (.cells (entC x).toArray 85)) (some ⟨w5.heap.size, 0, none⟩) (entC x) := row_alloc w5 (entC x) _ _
      have n56 := n5.trans n6
      have s56 := n56.size
      refine append_ ok rfl rfl rfl rfl (own_new n56 own4) rfl rfl row6 rfl (entC_one x) (by decide) rfl (by show (acc.length + 1) * 48 ≤ _; omega) (by omega) (Nat.le_trans (Nat.le_trans hsl s4z) s56) ?_
      intro A7 c7 w7 own7 mod7
      rw [← ents_snoc] at own7
      have m47 := Mod.trans n56.mod mod7 (S := fun b => some b = (Value.slice Al acc.length cl).ownBlock) fun _ _ h => h
      have hg' : ¬ some g = (Value.slice Al acc.length cl).ownBlock := fun e => by have := hown g e.symm; omega
      have hh' : ¬ some w.heap.size = (Value.slice Al acc.length cl).ownBlock := fun e => by have := hown _ e.symm; omega
      have ha' : ∀ a, A = some a → bs ≠ [] → ¬ some a.block = (Value.slice Al acc.length cl).ownBlock := fun a ha hn e => by have := hlow a ha hn; have := hown _ e.symm; omega
      have p7 := p4.modN m47 hh' hg' ha'
      have k7 : Mod (fun b => b = g) w w7 := Mod.trans k4 m47 fun b hb e => by have := hown b e.symm; omega
      have hb7 := mod7.blk (n6.blk hb5) (fun e => by have := hown _ e.symm; omega)
      have s7 := m47.size
      refine Exists.intro x.tag (And.intro (cellB hb7 rfl) ?_)
      refine if_p (fun h5 => ?_) (fun h5 => ?_)
      · replace h5 : x.tag = 5 := h5
        have n8 := New.alloc w7 (.cells (entC e0).toArray 85)
        have row8 : Row (w7.alloc (.cells (entC e0).toArray 85)) (some ⟨w7.heap.size, 0, none⟩) (entC e0) := row_alloc w7 (entC e0) _ _
        have own7' := fun b (e : (Value.slice A7 (acc.length + 1) c7).ownBlock = some b) => own7.lt b e
        refine append_ ok rfl rfl rfl rfl (own_new n8 own7) rfl rfl row8 rfl (entC_one e0) (by decide) rfl (by show (acc.length + 1 + 1) * 48 ≤ _; omega) (by omega) (Nat.le_trans (Nat.le_trans (Nat.le_trans hsl s4z) s7) n8.size) ?_
        intro A9 c9 w9 own9 mod9
        have e10 : ((acc ++ [x]).map entC).flatten ++ entC e0 = ((acc ++ [x, e0]).map entC).flatten := by rw [← ents_snoc, List.append_assoc]; rfl
        rw [e10] at own9
        have m79 := Mod.trans n8.mod mod9 (S := fun b => some b = (Value.slice A7 (acc.length + 1) c7).ownBlock) fun _ _ h => h
        have et : tailOf x = [e0] := by unfold tailOf; rw [if_pos h5]
        rw [et] at hloop
        have hl : (acc ++ [x, e0]).length = acc.length + 1 + 1 := by simp
        have s9 := m79.size
        refine ⟨m, ((A9, c9), acc ++ [x, e0], s4), by omega, ⟨rfl, rfl, by rw [hl]; rfl, trivial⟩, hloop, by dsimp only; omega, by dsimp only; omega, ?_, ?_, by omega, ?_, ?_⟩
        · exact p7.modN m79 (fun e => by have := own7' _ e.symm; omega) (fun e => by have := own7' _ e.symm; omega) (fun a ha hn e => by have := hlow a ha hn; have := own7' _ e.symm; omega)
        · exact Mod.trans k7 m79 fun b hb e => by have := own7' b e.symm; omega
        · dsimp only
          rw [hl]
          exact own9
        · intro y hy
          rcases List.mem_append.1 hy with hy | hy
          · exact oks y hy
          · rcases List.mem_cons.1 hy with hy | hy
            · rw [hy]; exact hx
            · rw [List.mem_singleton.1 hy]; exact ok_e0
      · replace h5 : ¬ x.tag = 5 := h5
        have et : tailOf x = [] := by unfold tailOf; rw [if_neg h5]
        rw [et] at hloop
        have hl : (acc ++ [x]).length = acc.length + 1 := by simp
        refine ⟨m, ((A7, c7), acc ++ [x], s4), by omega, ⟨rfl, rfl, by rw [hl]; rfl, trivial⟩, hloop, by dsimp only; omega, by dsimp only; omega, p7, k7, by omega, ?_, ?_⟩
        · dsimp only
          rw [hl]
          exact own7
        · intro y hy
          rcases List.mem_append.1 hy with hy | hy
          · exact oks y hy
          · rw [List.mem_singleton.1 hy]; exact hx
    · replace hz : ¬ s'.2 = 0 := hz
      refine Exists.intro s'.2 (And.intro (cellB pl.blk rfl) ?_)
      refine if_n (fun _ => ?_) (fun h => absurd h hz)
      refine draw_ (w := wl) ok (.q 0 (.q 1 (.q 2 (.q 3 (.q 4 (.q 5 .done)))))) [5] (New wl) (by kernel_rfl) (by kernel_rfl) (by kernel_rfl) (by kernel_rfl) (by kernel_rfl) (New.drew _) ?_
      refine Exists.intro s'.2 (And.intro (fun w'' hw => cellB (hw.blk pl.blk) rfl) ?_)
      exact herr hz
  · replace hge : ¬ (acc.length : Int) < n := hge
    refine Exists.intro s'.2 (And.intro (cellB pl.blk rfl) ?_)
    refine if_n (fun hz => ?_) (fun hz => ?_)
    · replace hz : ¬ s'.2 = 0 := hz
      refine draw_ (w := wl) ok (.q 0 (.q 1 (.q 2 (.q 3 (.q 4 (.q 5 .done)))))) [5] (New wl) (by kernel_rfl) (by kernel_rfl) (by kernel_rfl) (by kernel_rfl) (by kernel_rfl) (New.drew _) ?_
      refine Exists.intro s'.2 (And.intro (fun w'' hw => cellB (hw.blk pl.blk) rfl) ?_)
      exact herr hz
    replace hz : s'.2 = 0 := hz
    rw [← hloop, loopR_stop (fun h => hge h.1)] at hR
    unfold readEnd at hR
    rw [if_neg (show ¬ (acc, s').2.2 ≠ 0 from fun h => h hz)] at hR
    dsimp only at hR
    refine if_p (fun hbig => ?_) (fun hsm => ?_)
    · replace hbig : n < (acc.length : Int) := hbig
      rw [if_pos hbig] at hR
      exact fail s' 70 _ hR pl kl
    replace hsm : ¬ n < (acc.length : Int) := hsm
    rw [if_neg hsm] at hR
    obtain ⟨_, _, hpl⟩ := pl_own own rfl oks
    refine call_ (Check_ok Al acc.length cl acc wl hpl) ?_
    rintro e w5 ⟨rfl, n5⟩
    refine ⟨_, rfl, ?_⟩
    have k5 : Mod (fun b => b = g) w w5 := kl.trans n5 (fun _ _ e => False.elim e)
    rcases chk_cases acc with ⟨hc, ho⟩ | ⟨hc, ho⟩
    · rw [hc]
      rw [ho, if_neg (by decide)] at hR
      exact fail s' 70 _ hR (pl.new n5) k5
    · rw [hc]
      rw [ho, if_pos rfl] at hR
      refine ⟨_, acc, s'.1, 0, by rw [hR, ← hz], rfl, own_low (own_new n5 own) (by omega), oks, (pl.new n5).rd, k5⟩
end Go.Proofs.YtdcaafldnbcdkaaGreatDoor.Pool

/-! ### KParse -/
namespace Go.Proofs.YtdcaafldnbcdkaaGreatDoor.Class
open Go Go.Proofs.YtdcaafldnbcdkaaGreatDoor Go.Proofs.YtdcaafldnbcdkaaGreatDoor.Eng Go.Proofs Go.Proofs.YtdcaafldnbcdkaaGreatDoor.Word Go.Proofs.YtdcaafldnbcdkaaGreatDoor.Fmt
open Go.Proofs.YtdcaafldnbcdkaaGreatDoor.Pool (rd_modN rd_low RS Ent at_ poolF strV entC entV EntOk Pl OkPool both own_low tagAt)
set_option maxRecDepth 10000

theorem Equal_ok (A1 : Option Addr) (c1 : Nat) (l1 : List UInt8) (A2 : Option Addr) (c2 : Nat) (l2 : List UInt8) (w : World) (h1 : Row w A1 (bvs l1)) (h2 : Row w A2 (bvs l2)) :
    Calls Tryz.prog 22 #[.slice A1 l1.length c1, .slice A2 l2.length c2] w fun e w' => e = .returned (.bool (decide (l1 = l2))) ∧ w' = w := by
  refine enter ok Tryz.func22 rfl rfl rfl ?_
  refine Exists.intro l1 (And.intro rfl (And.intro h1 ?_))
  refine Exists.intro l2 (And.intro rfl (And.intro h2 ?_))
  have e : decide ((⟨l1.toArray⟩ : ByteArray) = ⟨l2.toArray⟩) = decide (l1 = l2) := by
    by_cases h : l1 = l2
    · rw [decide_eq_true h, h]
      exact decide_eq_true rfl
    · rw [decide_eq_false h]
      refine decide_eq_false fun k => h ?_
      have := congrArg (fun b : ByteArray => b.data.toList) k
      simpa using this
  rw [← e]
  exact ⟨rfl, rfl⟩
def zeroC : List Value := [.slice none 0 0, .string ⟨#[]⟩, .string ⟨#[]⟩, .slice none 0 0, .slice none 0 0]
theorem one_zero : ∀ u ∈ zeroC, u.oneCell' = true := fun u hu => by
  simp only [zeroC, List.mem_cons, List.not_mem_nil, or_false] at hu
  rcases hu with rfl | rfl | rfl | rfl | rfl <;> rfl
theorem one_cls (A1 A2 A3 : Option Addr) (n1 c1 n2 c2 n3 c3 : Nat) (z1 z2 : List UInt8) : ∀ u ∈ [Value.slice A1 n1 c1, strV z1, strV z2, Value.slice A2 n2 c2, Value.slice A3 n3 c3], u.oneCell' = true := fun u hu => by
  simp only [List.mem_cons, List.not_mem_nil, or_false] at hu
  rcases hu with rfl | rfl | rfl | rfl | rfl <;> rfl
/-- What Parse answers. -/
def PRes (w : World) (bs : List UInt8) (e : Ending) (w' : World) : Prop := New w w' ∧ ((∃ cs x, e = .returned (.tuple #[.agg (List.toArray cs), zi 0]) ∧ clsR w' (fun b => b < w.heap.size) cs x ∧ fCls x ∧ cCls x ≤ 500000000 ∧ Is bs x) ∨
  ((∀ x, ¬ Is bs x) ∧ e = .returned (.tuple #[.agg (List.toArray zeroC), zi (if 32768 < bs.length then 3 else 80)])))
theorem pres_bad {w w1 w2 : World} {V : Nat} {bs : List UInt8} {e : Ending} (n : New w w1) (m : Mod (fun b => b = V) w1 w2) (hV : w.heap.size ≤ V) (h : ∀ x, ¬ Is bs x) (he : e = .returned (.tuple #[.agg (List.toArray zeroC), zi (if 32768 < bs.length then 3 else 80)])) : PRes w bs e w2 := ⟨n.st m hV, .inr ⟨h, he⟩⟩
theorem parse_hdr {bs : List UInt8} {x : Cls} (h : Is bs x) : (getB bs 0 8).2.2 = 8 ∧ ∃ j, Pool.readR bs 8 = (x.pool, j, 0) ∧ j ≤ bs.length ∧ bs.drop j = (restT x.pool).enc (33, x.name, x.super, 0, x.fields, x.methods, 0) := by
  obtain ⟨ho, he, _⟩ := is_of h
  obtain ⟨_, _, _, _, hp, _⟩ := ho
  have e1 : bs = (enc 4 3405691582 ++ (enc 2 0 ++ enc 2 52)) ++ (poolF.enc x.pool ++ (restT x.pool).enc (33, x.name, x.super, 0, x.fields, x.methods, 0)) := by
    rw [he, List.append_assoc, List.append_assoc]
    rfl
  have hl : (enc 4 3405691582 ++ (enc 2 0 ++ enc 2 52)).length = 8 := by
    rw [List.length_append, List.length_append, enc_length, enc_length, enc_length]
  have e2 : bs.drop 8 = poolF.enc x.pool ++ (restT x.pool).enc (33, x.name, x.super, 0, x.fields, x.methods, 0) := by
    rw [e1, List.drop_left' hl]
  have h8 : 8 ≤ bs.length := by
    have := congrArg List.length e1
    rw [List.length_append, hl] at this
    omega
  refine ⟨?_, ?_⟩
  · unfold getB
    rw [if_neg (by decide), if_neg (by omega)]
    rfl
  · have hf := poolF.fwd x.pool ((restT x.pool).enc (33, x.name, x.super, 0, x.fields, x.methods, 0)) hp
    rw [← e2] at hf
    rcases Pool.read_says bs 8 h8 with ⟨v, j, a1, a2, _, a4⟩ | ⟨a1, _⟩
    · change Pool.poolP _ = _ at hf
      rw [hf] at a1
      have a3 := Prod.mk.inj (Option.some.inj a1)
      exact ⟨j, by rw [a2, a3.1], a4, a3.2.symm⟩
    · change Pool.poolP _ = _ at hf
      rw [hf] at a1
      cases a1
theorem read_pool {bs : List UInt8} {i j : Nat} {l : List Ent} (hi : i ≤ bs.length) (h : Pool.readR bs i = (l, j, 0)) : OkPool l ∧ j ≤ bs.length := by
  have hs := Pool.read_says bs i hi
  rw [h] at hs
  rcases hs with ⟨v, k, e1, e2, _, e4⟩ | ⟨_, e2, _⟩
  · cases e2
    obtain ⟨⟨o1, _⟩, _⟩ := poolF.bwd _ l _ e1
    exact ⟨(Pool.okB_iff l).1 o1, e4⟩
  · exact absurd rfl e2
theorem parse_math {bs : List UInt8} {x : Cls} {l : List Ent} {j : Nat} {k1 k4 : Int} {nm sp : List UInt8} {fs : List Fld} {ms : List Mth} {s1 s2 s3 s4 s5 s6 : RSt} (h : Is bs x) (hj : Pool.readR bs (getB bs 0 8).2.2 = (l, j, 0))
    (r1 : Rd n2 bs (j, false) k1 s1) (r2 : Rd (clsT l) bs s1 nm s2) (r3 : Rd (supT l) bs s2 sp s3) (r4 : Rd n2 bs s3 k4 s4) (r5 : Rd (fldsT l) bs s4 fs s5) (r6 : Rd (mthsT l) bs s5 ms s6) : x = ⟨l, nm, sp, fs, ms⟩ ∧ s6.2 = false := by
  obtain ⟨h1, j', h2, h3, h4⟩ := parse_hdr h
  rw [h1, h2] at hj
  cases hj
  obtain ⟨ho, _, _⟩ := is_of h
  obtain ⟨_, _, _, _, _, o1, o2, o3, o4, o5, o6, _⟩ := ho
  have e : bs.drop j = n2.enc 33 ++ ((clsT x.pool).enc x.name ++ ((supT x.pool).enc x.super ++ (n2.enc 0 ++ ((fldsT x.pool).enc x.fields ++ ((mthsT x.pool).enc x.methods ++ n2.enc 0))))) := h4
  obtain ⟨_, b1, e⟩ := r1.2.2 rfl _ _ o1 e
  obtain ⟨q2, b2, e⟩ := r2.2.2 b1 _ _ o2 e
  obtain ⟨q3, b3, e⟩ := r3.2.2 b2 _ _ o3 e
  obtain ⟨_, b4, e⟩ := r4.2.2 b3 _ _ o4 e
  obtain ⟨q5, b5, e⟩ := r5.2.2 b4 _ _ o5 e
  obtain ⟨q6, b6, e⟩ := r6.2.2 b5 _ _ o6 e
  exact ⟨by cases x; simp_all, b6⟩
theorem ents_rep {w : World} {b0 : Nat} {S : Nat → Prop} {v : Value} {l : List Ent} (own : w.ownsRow b0 85 5 v l.length (l.map entC).flatten) (hl : l.length ≤ 140737488355328) (hS : ∀ b, b0 ≤ b → ¬ S b) : LRep entR w S v l := by
  obtain ⟨A, c, rfl, h5, h6, row, ho⟩ := own_slice own
  refine ⟨A, c, l.map fun x => (entC x, x), rfl, by rw [List.map_map]; exact List.map_id _, h5, h6, hl, ?_, fun a ha _ => ⟨(ho a ha).2.1, hS _ (ho a ha).1⟩, fun t ht => ?_⟩
  · show Row w A (cellsOf _)
    have : cellsOf (l.map fun x => (entC x, x)) = (l.map entC).flatten := by
      unfold cellsOf
      rw [List.map_map]
      rfl
    rw [this]
    exact row
  · obtain ⟨y, _, rfl⟩ := List.mem_map.1 ht
    rfl

theorem Parse_ok (A : Option Addr) (c : Nat) (bs : List UInt8) (w : World) (hr : Row w A (bvs bs)) (hc : bs.length ≤ c) (ht : c ≤ 9223372036854775807) (hbig : bs.length ≤ 140737488355328) (hk : Kt w) (hG : 0 < w.heap.size) :
    Calls Tryz.prog 5 #[.slice A bs.length c] w (PRes w bs) := by
  refine enter ok Tryz.func5 rfl rfl rfl ?_
  obtain ⟨V, hV⟩ : ∃ V, V = w.heap.size := ⟨_, rfl⟩
  refine seq_cut (σ := Unit) (fun _ => [(0, .slice A bs.length c), (2, .pointer (some ⟨V, 0, none⟩)), (3, zi 0)]) (fun _ w' => New w w' ∧ w'.heap.size = w.heap.size + 1 ∧ w'.heap[V]? = some (.cells #[.slice none 0 0, .string ⟨#[]⟩, .string ⟨#[]⟩, .slice none 0 0, .slice none 0 0] 28 (0, 0))) ?_ ?_
  rotate_left
  · intro K hK
    rw [hV] at hK
    exact hK () _ _ ⟨rfl, rfl, rfl, trivial⟩ ⟨New.alloc w _, by simp, heap_alloc_new w (.cells #[.slice none 0 0, .string ⟨#[]⟩, .string ⟨#[]⟩, .slice none 0 0, .slice none 0 0] 28)⟩
  rintro _ w0 fr0 ⟨n0, hz0, hV0⟩
  refine seq_cut (σ := Unit) (fun _ => [(0, .slice A bs.length c), (2, .pointer (some ⟨V, 0, none⟩)), (3, zi 0)]) (fun _ w' => w' = w0 ∧ bs.length ≤ 32768) ?_ ?_
  rotate_left
  · intro K hK
    refine if_p (fun hl => ?_) (fun hl => ?_)
    · replace hl : (32768 : Int) < (bs.length : Int) := hl
      refine And.intro rfl ?_
      refine storeN_all (vs := zeroC) hV0 rfl one_zero ?_
      intro wz hz mz sz
      refine loadN_row (vs := zeroC) (rowB hz) rfl ?_
      exact pres_bad (n0) mz (by omega) (fun x h => by have := (is_of h).2.2; omega) (by rw [if_pos (by omega)]; rfl)
    · replace hl : ¬ (32768 : Int) < (bs.length : Int) := hl
      exact hK () _ _ ⟨rfl, rfl, rfl, trivial⟩ ⟨rfl, by omega⟩
  rintro _ wy fry ⟨hwy, hlen⟩
  obtain rfl := hwy.symm
  -- the reader
  refine seq_cut (σ := Nat × Nat × Nat) (fun t => [(0, .slice A bs.length c), (2, .pointer (some ⟨V, 0, none⟩)), (3, zi 0), (4, .pointer (some ⟨t.2.2, 0, none⟩))]) (fun t w' => New w0 w' ∧ w'.heap[t.2.2]? = some (.cells #[.pointer (some ⟨t.2.1, 0, none⟩)] 36 (0, 0)) ∧ w'.heap[t.2.1]? = some (.cells #[.pointer (some ⟨t.1, 0, none⟩), .slice none 0 0, .bool false] 40 (0, 0)) ∧ Word.Rd w' t.1 A c bs 0 ∧ w0.heap.size ≤ t.1 ∧ t.1 < t.2.1 ∧ t.2.1 < t.2.2) ?_ ?_
  rotate_left
  · intro K hK
    refine call_ (Read_okN A c bs w0 (hr.new n0) hc ht) ?_
    rintro e w1 ⟨rfl, rd1, n1, s1⟩
    refine ⟨_, rfl, ?_⟩
    have na := New.alloc w1 (.cells #[.pointer (some ⟨w0.heap.size, 0, none⟩), .slice none 0 0, .bool false] 40)
    have ha := heap_alloc_new w1 (.cells #[.pointer (some ⟨w0.heap.size, 0, none⟩), .slice none 0 0, .bool false] 40)
    have sa : (w1.alloc (.cells #[.pointer (some ⟨w0.heap.size, 0, none⟩), .slice none 0 0, .bool false] 40)).heap.size = w1.heap.size + 1 := by simp
    have nb := New.alloc (w1.alloc (.cells #[.pointer (some ⟨w0.heap.size, 0, none⟩), .slice none 0 0, .bool false] 40)) (.cells #[.pointer none] 36)
    have hb := heap_alloc_new (w1.alloc (.cells #[.pointer (some ⟨w0.heap.size, 0, none⟩), .slice none 0 0, .bool false] 40)) (.cells #[.pointer none] 36)
    refine And.intro ⟨_, cell0 hb⟩ (And.intro (fz0 hb) (force_ ?_))
    refine st0 hb (show (0 : Nat) < 1 by decide) ?_
    intro w5 hX5 m5 s5
    have nc := New.made m5
    exact hK (w0.heap.size, w1.heap.size, (w1.alloc (.cells #[.pointer (some ⟨w0.heap.size, 0, none⟩), .slice none 0 0, .bool false] 40)).heap.size) _ _ ⟨rfl, rfl, rfl, rfl, trivial⟩ ⟨(n1.trans na).trans nc, hX5, nc.blk ha, (rd1.new na).new nc, Nat.le_refl _, by dsimp only; omega, by dsimp only; omega⟩
  rintro ⟨g, h, X⟩ w1 fr1 ⟨n1, hX1, hh1, rd1, hg0, hgh, hhX⟩
  dsimp only at hX1 hh1 rd1 hg0 hgh hhX
  have hV1 := n1.blk hV0
  -- the header
  refine seq_cut (σ := Unit) (fun _ => [(0, .slice A bs.length c), (2, .pointer (some ⟨V, 0, none⟩)), (3, zi 0), (4, .pointer (some ⟨X, 0, none⟩))]) (fun _ w' => Word.Rd w' g A c bs (getB bs 0 8).2.2 ∧ Mod (fun b => b = g) w1 w') ?_ ?_
  rotate_left
  · intro K hK
    refine Exists.intro (some ⟨h, 0, none⟩) (And.intro (cell0 hX1) ?_)
    refine Exists.intro (some ⟨g, 0, none⟩) (And.intro (cellB hh1 rfl) ?_)
    refine call_ (RBytes_ok g A c bs 0 8 w1 rd1 hbig) ?_
    rintro e wa ⟨v, rfl, _, rda, ma⟩
    refine ⟨_, rfl, ?_⟩
    exact hK () _ _ ⟨rfl, rfl, rfl, rfl, trivial⟩ ⟨rda, ma⟩
  rintro _ w2 fr2 ⟨rd2, m2⟩
  have hX2 := m2.blk hX1 (show ¬ X = g by omega)
  have hh2 := m2.blk hh1 (show ¬ h = g by omega)
  have hV2 := m2.blk hV1 (show ¬ V = g by omega)
  have hz2 := m2.size
  have hXl : X < w1.heap.size := (Array.getElem?_eq_some_iff.1 hX1).1
  -- the pool
  refine seq_cut (σ := (Option Addr × Nat) × List Ent × Nat × Int) (fun t => [(0, .slice A bs.length c), (2, .pointer (some ⟨V, 0, none⟩)), (3, zi 0), (4, .pointer (some ⟨X, 0, none⟩)), (5, .slice t.1.1 t.2.1.length t.1.2), (6, zi t.2.2.2)]) (fun t w' => Pool.readR bs (getB bs 0 8).2.2 = t.2 ∧ w'.ownsRow w2.heap.size 85 5 (.slice t.1.1 t.2.1.length t.1.2) t.2.1.length (t.2.1.map entC).flatten ∧ (∀ x ∈ t.2.1, EntOk x) ∧ Word.Rd w' g A c bs t.2.2.1 ∧ Mod (fun b => b = g) w2 w') ?_ ?_
  rotate_left
  · intro K hK
    refine Exists.intro (some ⟨h, 0, none⟩) (And.intro (cell0 hX2) ?_)
    refine Exists.intro (some ⟨g, 0, none⟩) (And.intro (cellB hh2 rfl) ?_)
    refine call_ (Pool.Read_ok g A c bs (getB bs 0 8).2.2 w2 rd2 hbig) ?_
    rintro e wa ⟨v7, l7, j7, er7, hr7, rfl, own7, oks7, rd7, mod7⟩
    obtain ⟨A7, c7, rfl, _⟩ := own_slice own7
    refine ⟨_, rfl, ?_⟩
    exact hK ((A7, c7), l7, j7, er7) _ _ ⟨rfl, rfl, rfl, rfl, rfl, rfl, trivial⟩ ⟨hr7, own7, oks7, rd7, mod7⟩
  rintro ⟨⟨A7, c7⟩, l, j, er⟩ w3 fr3 ⟨hr3, own3, oks3, rd3, m3⟩
  dsimp only at hr3 own3 oks3 rd3
  have hX3 := m3.blk hX2 (show ¬ X = g by omega)
  have hh3 := m3.blk hh2 (show ¬ h = g by omega)
  have hV3 := m3.blk hV2 (show ¬ V = g by omega)
  have hz3 := m3.size
  have n3 : New w w3 := Mod.trans (Mod.trans (n0.trans n1) m2 fun b hb e => by omega) m3 fun b hb e => by omega
  refine seq_cut (σ := Unit) (fun _ => [(0, .slice A bs.length c), (2, .pointer (some ⟨V, 0, none⟩)), (3, zi 0), (4, .pointer (some ⟨X, 0, none⟩)), (5, .slice A7 l.length c7)]) (fun _ w' => w' = w3 ∧ er = 0) ?_ ?_
  rotate_left
  · intro K hK
    refine if_n (fun hne => ?_) (fun heq => ?_)
    · refine And.intro rfl ?_
      refine storeN_all (vs := zeroC) hV3 rfl one_zero ?_
      intro wz hz mz sz
      refine loadN_row (vs := zeroC) (rowB hz) rfl ?_
      exact pres_bad (n3) mz (by omega) (fun x h => by obtain ⟨e1, j1, e2, _⟩ := parse_hdr h; rw [e1, e2] at hr3; cases hr3; exact hne rfl) (by rw [if_neg (by omega)]; rfl)
    · exact hK () _ _ ⟨rfl, rfl, rfl, rfl, rfl, trivial⟩ ⟨rfl, heq⟩
  rintro _ wy3 fry3 ⟨hwy, her⟩
  obtain rfl := hwy.symm
  subst her
  have hi8 : (getB bs 0 8).2.2 ≤ bs.length := rd2.at_
  obtain ⟨hO, hj⟩ := read_pool hi8 hr3
  have hpl : l.length ≤ 1024 := hO.2
  have lp3 : LRep entR w3 (fun b => b < w2.heap.size) (.slice A7 l.length c7) l := ents_rep own3 (by omega) (fun b hb e => by omega)
  obtain ⟨p, hp⟩ : ∃ p : Po, p = ⟨A7, c7, l⟩ := ⟨_, rfl⟩
  have hpd : ∀ a, A7 = some a → l ≠ [] → w2.heap.size ≤ a.block := fun a ha _ => by
    obtain ⟨A', c', e', _, _, _, ho⟩ := own_slice own3
    cases e'
    exact (ho a ha).1
  have hkz : Kt w3 := fun k h0 h5 => n3.cell (hk k h0 h5)
  refine seq_cut (σ := Unit) (fun _ => [(0, .slice A bs.length c), (2, .pointer (some ⟨V, 0, none⟩)), (3, zi 0), (4, .pointer (some ⟨X, 0, none⟩)), (5, .slice A7 l.length c7)]) (fun _ w' => Ir w' h g A c bs p (j, false) ∧ Mod (fun b => b = h) w3 w') ?_ ?_
  rotate_left
  · intro K hK
    refine Exists.intro (some ⟨h, 0, none⟩) (And.intro (cell0 hX3) ?_)
    refine And.intro ⟨_, cellB hh3 rfl⟩ (And.intro (fzB hh3 _) (force_ ?_))
    refine stK hh3 (show (1 : Nat) < 3 by decide) ?_
    intro wb hb mb sb
    have hlow := row_low hr
    have n0z := n0.size
    have n1z := n1.size
    refine hK () _ _ ⟨rfl, rfl, rfl, rfl, rfl, trivial⟩ ⟨⟨by rw [hp]; exact hb, rd_modN rd3 mb (by omega) (fun a ha hn e => by have := hlow a ha hn; omega), by omega, fun a ha hn e => by have := hlow a ha hn; omega, ?_, fun k h0 h5 => mb.cell (hkz k h0 h5) (fun e => ?_), fun b hb => ?_⟩, mb⟩
    · rw [hp]
      obtain ⟨A', c', e', pl', _⟩ := pool_row (lp3.mod entOk (by decide) (mb.mono fun b _ e => by omega)) oks3
      cases e'
      exact pl'
    · have e : 0 = h := e
      omega
    · rcases hb with ⟨a, ha, hn, rfl⟩ | rfl
      · rw [hp] at ha hn
        have := hpd a ha hn
        exact ⟨by omega, by omega⟩
      · exact ⟨by omega, by omega⟩
  rintro _ w4 fr4 ⟨q4, m4⟩
  have hX4 := m4.blk hX3 (show ¬ X = h by omega)
  have hV4 := m4.blk hV3 (show ¬ V = h by omega)
  have hz4 := m4.size
  have lp4 := lp3.mod entOk (by decide) (m4.mono fun b _ e => by omega)
  -- the class
  refine seq_cut (σ := Nat) (fun M => [(0, .slice A bs.length c), (2, .pointer (some ⟨V, 0, none⟩)), (3, zi 0), (4, .pointer (some ⟨X, 0, none⟩)), (7, .pointer (some ⟨M, 0, none⟩))]) (fun M w' => New w4 w' ∧ w4.heap.size ≤ M ∧ w'.heap[M]? = some (.cells #[.slice A7 l.length c7, strV [], strV [], .slice none 0 0, .slice none 0 0] 28 (0, 0))) ?_ ?_
  rotate_left
  · intro K hK
    refine And.intro rfl ?_
    refine storeNew (vs := [.slice A7 l.length c7, strV [], strV [], .slice none 0 0, .slice none 0 0]) (arr := #[.slice none 0 0, .string ⟨#[]⟩, .string ⟨#[]⟩, .slice none 0 0, .slice none 0 0]) rfl (one_cls _ _ _ _ _ _ _ _ _ [] []) ?_
    intro wb hb nb sb
    exact hK w4.heap.size _ _ ⟨rfl, rfl, rfl, rfl, rfl, trivial⟩ ⟨nb, Nat.le_refl _, hb⟩
  rintro M w5 fr5 ⟨n5, hMw, hM5⟩
  have lp5 : LRep entR w5 (fun b => b < w2.heap.size ∨ b = M) (.slice A7 l.length c7) l := LRep.mod entOk (by decide) (LRep.weak entOk lp4 fun b hb e => e.resolve_right (by omega)) (n5.mod.mono fun _ _ e => False.elim e)
  have q5 := q4.new n5
  have hX5 := n5.blk hX4
  have hV5 := n5.blk hV4
  have hz5 := n5.size
  have hVl : V < w3.heap.size := (Array.getElem?_eq_some_iff.1 hV3).1
  have hX0' : ¬ X = h := by omega
  have hXg : ¬ X = g := by omega
  have hXn : ¬ RS h g X := fun e => by rcases e with e | e; exact hXg e; exact hX0' e
  have hVr : ¬ RS h g V := fun e => by
    rcases e with e | e
    · have e : V = g := e; omega
    · have e : V = h := e; omega
  have hMr : ¬ RS h g M := fun e => by
    rcases e with e | e
    · have e : M = g := e; omega
    · have e : M = h := e; omega
  have hM0 : ∀ b, Iin h g A bs p b → b ≠ M := fun b hb e => by have := q4.lt hb; omega
  have hXM : ¬ X = M := by omega
  have hVM : ¬ V = M := by omega
  obtain ⟨s5, hs5⟩ : ∃ s5 : RSt, s5 = (j, false) := ⟨_, rfl⟩
  rw [← hs5] at q5
  have hO' : OkPool p.l := by rw [hp]; exact hO
  replace hO := hO'
  refine seq_cut (σ := Int) (fun _ => [(0, .slice A bs.length c), (2, .pointer (some ⟨V, 0, none⟩)), (3, zi 0), (4, .pointer (some ⟨X, 0, none⟩)), (7, .pointer (some ⟨M, 0, none⟩))]) (fun n w' => ∃ s', Rd Class.n2 bs s5 n s' ∧ On s5 s' ∧ Ir w' h g A c bs p s' ∧ Mod (RS h g) w5 w') ?_ ?_
  rotate_left
  · intro K hK
    refine Exists.intro (some ⟨h, 0, none⟩) (And.intro (cell0 hX5) ?_)
    refine call_ (u_ok h g A c bs p s5 2 Pool.w2 w5 q5) ?_
    rintro e wa ⟨na, sa, rfl, ra, hba, oa, qa, ma⟩
    refine ⟨_, rfl, ?_⟩
    exact hK na _ _ ⟨rfl, rfl, rfl, rfl, rfl, trivial⟩ ⟨sa, ra, oa, qa, ma⟩
  rintro k6 w6 fr6 ⟨s6, r6, o6, q6, m6⟩
  have hX6 := m6.blk hX5 hXn
  have hV6 := m6.blk hV5 hVr
  have hM6 := m6.blk hM5 hMr
  have t6 := m6.mono (show ∀ b, b < w5.heap.size → RS h g b → RS h g b ∨ b = M from fun _ _ e => .inl e)
  -- its name
  refine seq_cut (σ := List UInt8) (fun _ => [(0, .slice A bs.length c), (2, .pointer (some ⟨V, 0, none⟩)), (3, zi 0), (4, .pointer (some ⟨X, 0, none⟩)), (7, .pointer (some ⟨M, 0, none⟩))]) (fun z w' => ∃ s', Rd (clsT p.l) bs s6 z s' ∧ On s6 s' ∧ Ir w' h g A c bs p s' ∧ Mod (fun b => RS h g b ∨ b = M) w6 w' ∧ w'.heap[X]? = some (.cells #[.pointer (some ⟨h, 0, none⟩)] 36 (0, 0)) ∧ w'.heap[V]? = some (.cells #[.slice none 0 0, .string ⟨#[]⟩, .string ⟨#[]⟩, .slice none 0 0, .slice none 0 0] 28 (0, 0)) ∧ w'.heap[M]? = some (.cells #[.slice A7 l.length c7, strV z, strV [], .slice none 0 0, .slice none 0 0] 28 (0, 0))) ?_ ?_
  rotate_left
  · intro K hK
    have nd := New.drew w6
    refine draw_ (w := w6) ok (.q 0 (.q 1 (.e 2 (.e 3 (.q 4 (.e 5 .done)))))) [5] (fun w'' : World => w''.heap[X]? = some (.cells #[.pointer (some ⟨h, 0, none⟩)] 36 (0, 0))) (by kernel_rfl) (by kernel_rfl) (by kernel_rfl) (by kernel_rfl) (by kernel_rfl) (nd.blk hX6) ?_
    refine Exists.intro (some ⟨h, 0, none⟩) (And.intro (fun w'' hw => cell0 hw) ?_)
    refine Exists.intro (some ⟨h, 0, none⟩) (And.intro (fun w'' hw => cell0 hw) ?_)
    refine call_ (u_ok h g A c bs p s6 2 Pool.w2 w6.drew (q6.new nd)) ?_
    rintro e wa ⟨na, sa, rfl, ra, hba, oa, qa, ma⟩
    refine ⟨_, rfl, ?_⟩
    have hXa := ma.blk (nd.blk hX6) hXn
    refine Exists.intro (fun w'' : World => w''.heap[X]? = some (.cells #[.pointer (some ⟨h, 0, none⟩)] 36 (0, 0))) ?_
    refine And.intro (fun _ h => h) ?_
    refine And.intro (hXa) ?_
    refine call_ (of_ok h g A c bs p sa na 7 wa qa hO hba.1 (.inr rfl)) ?_
    rintro e wb ⟨rfl, qb, mb⟩
    refine ⟨_, rfl, ?_⟩
    have hXb := mb.blk hXa hXn
    refine Exists.intro (fun w'' : World => w''.heap[X]? = some (.cells #[.pointer (some ⟨h, 0, none⟩)] 36 (0, 0))) ?_
    refine And.intro (fun _ h => h) ?_
    refine And.intro (hXb) ?_
    have hMb := mb.blk (ma.blk (nd.blk hM6) hMr) hMr
    refine And.intro ⟨_, cellB hMb rfl⟩ (And.intro (fzB hMb _) (force_ ?_))
    refine stK hMb (show (1 : Nat) < 5 by decide) ?_
    intro wc hMc mc sc
    exact hK (ofT p.l na 7) _ _ ⟨rfl, rfl, rfl, rfl, rfl, trivial⟩ ⟨_, rd_cls ra, oa.or _, qb.modN mc (fun b hb e => hM0 b hb e), Mod.trans ((Mod.trans nd.mod (both ma mb) fun _ _ e => e).mono fun _ _ e => .inl e) mc fun _ _ e => .inr e, mc.blk hXb hXM, mc.blk (mb.blk (ma.blk (nd.blk hV6) hVr) hVr) hVM, hMc⟩
  rintro nm w7 fr7 ⟨s7, r7, o7, q7, t7, hX7, hV7, hM7⟩
  -- its super
  refine seq_cut (σ := List UInt8) (fun _ => [(0, .slice A bs.length c), (2, .pointer (some ⟨V, 0, none⟩)), (3, zi 0), (4, .pointer (some ⟨X, 0, none⟩)), (7, .pointer (some ⟨M, 0, none⟩))]) (fun z w' => ∃ s', Rd (supT p.l) bs s7 z s' ∧ On s7 s' ∧ Ir w' h g A c bs p s' ∧ Mod (fun b => RS h g b ∨ b = M) w7 w' ∧ w'.heap[X]? = some (.cells #[.pointer (some ⟨h, 0, none⟩)] 36 (0, 0)) ∧ w'.heap[V]? = some (.cells #[.slice none 0 0, .string ⟨#[]⟩, .string ⟨#[]⟩, .slice none 0 0, .slice none 0 0] 28 (0, 0)) ∧ w'.heap[M]? = some (.cells #[.slice A7 l.length c7, strV nm, strV z, .slice none 0 0, .slice none 0 0] 28 (0, 0))) ?_ ?_
  rotate_left
  · intro K hK
    refine seq_cut (σ := Int) (fun n => [(0, .slice A bs.length c), (2, .pointer (some ⟨V, 0, none⟩)), (3, zi 0), (4, .pointer (some ⟨X, 0, none⟩)), (7, .pointer (some ⟨M, 0, none⟩)), (8, zi n)]) (fun n w' => ∃ s', Rd Class.n2 bs s7 n s' ∧ (0 ≤ n ∧ n < 65536) ∧ On s7 s' ∧ Ir w' h g A c bs p s' ∧ Mod (RS h g) w7 w') ?_ ?_
    rotate_left
    · intro K2 hK2
      refine Exists.intro (some ⟨h, 0, none⟩) (And.intro (cell0 hX7) ?_)
      refine call_ (u_ok h g A c bs p s7 2 Pool.w2 w7 q7) ?_
      rintro e wa ⟨na, sa, rfl, ra, hba, oa, qa, ma⟩
      refine ⟨_, rfl, ?_⟩
      exact hK2 na _ _ ⟨rfl, rfl, rfl, rfl, rfl, rfl, trivial⟩ ⟨sa, ra, hba, oa, qa, ma⟩
    rintro n wa fra ⟨sa, ra, hba, oa, qa, ma⟩
    have hXa := ma.blk hX7 hXn
    have hVa := ma.blk hV7 hVr
    have hMa := ma.blk hM7 hMr
    refine if_p (fun hn => ?_) (fun hn => ?_)
    · replace hn : 0 < n := hn
      refine Exists.intro (some ⟨h, 0, none⟩) (And.intro (cell0 hXa) ?_)
      refine call_ (of_ok h g A c bs p sa n 7 wa qa hO hba.1 (.inr rfl)) ?_
      rintro e wb ⟨rfl, qb, mb⟩
      refine ⟨_, rfl, ?_⟩
      have hMb := mb.blk hMa hMr
      refine And.intro ⟨_, cellB hMb rfl⟩ (And.intro (fzB hMb _) (force_ ?_))
      refine stK hMb (show (2 : Nat) < 5 by decide) ?_
      intro wc hMc mc sc
      exact hK (ofT p.l n 7) _ _ ⟨rfl, rfl, rfl, rfl, rfl, trivial⟩ ⟨_, Rd.sup1 ra (by omega) (rd_cls ra), oa.or _, qb.modN mc (fun b hb e => hM0 b hb e), Mod.trans ((both ma mb).mono fun _ _ e => .inl e) mc fun _ _ e => .inr e, mc.blk (mb.blk hXa hXn) hXM, mc.blk (mb.blk hVa hVr) hVM, hMc⟩
    · replace hn : ¬ 0 < n := hn
      exact hK [] _ _ ⟨rfl, rfl, rfl, rfl, rfl, trivial⟩ ⟨sa, Rd.sup0 ra (by omega), oa, qa, ma.mono fun _ _ e => .inl e, hXa, hVa, hMa⟩
  rintro sp w8 fr8 ⟨s8, r8, o8, q8, t8, hX8, hV8, hM8⟩
  refine seq_cut (σ := Int) (fun _ => [(0, .slice A bs.length c), (2, .pointer (some ⟨V, 0, none⟩)), (3, zi 0), (4, .pointer (some ⟨X, 0, none⟩)), (7, .pointer (some ⟨M, 0, none⟩))]) (fun n w' => ∃ s', Rd Class.n2 bs s8 n s' ∧ On s8 s' ∧ Ir w' h g A c bs p s' ∧ Mod (RS h g) w8 w') ?_ ?_
  rotate_left
  · intro K hK
    refine Exists.intro (some ⟨h, 0, none⟩) (And.intro (cell0 hX8) ?_)
    refine call_ (u_ok h g A c bs p s8 2 Pool.w2 w8 q8) ?_
    rintro e wa ⟨na, sa, rfl, ra, hba, oa, qa, ma⟩
    refine ⟨_, rfl, ?_⟩
    exact hK na _ _ ⟨rfl, rfl, rfl, rfl, rfl, trivial⟩ ⟨sa, ra, oa, qa, ma⟩
  rintro k9 w9 fr9 ⟨s9, r9, o9, q9, m9⟩
  have hX9 := m9.blk hX8 hXn
  have hV9 := m9.blk hV8 hVr
  have hM9 := m9.blk hM8 hMr
  have t9 := m9.mono (show ∀ b, b < w8.heap.size → RS h g b → RS h g b ∨ b = M from fun _ _ e => .inl e)
  -- its fields
  refine seq_cut (σ := (Option Addr × Nat) × List Fld) (fun _ => [(0, .slice A bs.length c), (2, .pointer (some ⟨V, 0, none⟩)), (3, zi 0), (4, .pointer (some ⟨X, 0, none⟩)), (7, .pointer (some ⟨M, 0, none⟩))]) (fun t w' => ∃ s', Rd (fldsT p.l) bs s9 t.2 s' ∧ csum cFld t.2 ≤ (0 + 8) * (s'.1 - s9.1) + 8 ∧ (∀ x ∈ t.2, i64 x.acc) ∧ On s9 s' ∧ LRep fldR w' (fun b => b < w9.heap.size) (.slice t.1.1 t.2.length t.1.2) t.2 ∧ Ir w' h g A c bs p s' ∧ Mod (fun b => RS h g b ∨ b = M) w9 w' ∧ w'.heap[X]? = some (.cells #[.pointer (some ⟨h, 0, none⟩)] 36 (0, 0)) ∧ w'.heap[V]? = some (.cells #[.slice none 0 0, .string ⟨#[]⟩, .string ⟨#[]⟩, .slice none 0 0, .slice none 0 0] 28 (0, 0)) ∧ w'.heap[M]? = some (.cells #[.slice A7 l.length c7, strV nm, strV sp, .slice t.1.1 t.2.length t.1.2, .slice none 0 0] 28 (0, 0))) ?_ ?_
  rotate_left
  · intro K hK
    refine Exists.intro (some ⟨h, 0, none⟩) (And.intro (cell0 hX9) ?_)
    refine call_ (members_fld h g A c bs p s9 w9 q9 hO X hX9 hXn (by omega)) ?_
    rintro e wa ⟨v, xs, sa, rfl, la, ra, ca, _, oa, qa, ma, fa⟩
    obtain ⟨Ax, cx, rfl, _⟩ := la.get fldOk (by decide)
    refine ⟨_, rfl, ?_⟩
    have hMa := ma.blk hM9 hMr
    have hMl : M < w9.heap.size := (Array.getElem?_eq_some_iff.1 hM9).1
    refine And.intro ⟨_, cellB hMa rfl⟩ (And.intro (fzB hMa _) (force_ ?_))
    refine stK hMa (show (3 : Nat) < 5 by decide) ?_
    intro wb hMb mb sb
    exact hK ((Ax, cx), xs) _ _ ⟨rfl, rfl, rfl, rfl, rfl, trivial⟩ ⟨sa, ra, ca, fa, oa, LRep.mod fldOk (by decide) la (mb.mono fun b _ e => by omega), qa.modN mb (fun b hb e => hM0 b hb e), Mod.trans (ma.mono fun _ _ e => .inl e) mb fun _ _ e => .inr e, mb.blk (ma.blk hX9 hXn) hXM, mb.blk (ma.blk hV9 hVr) hVM, hMb⟩
  rintro ⟨⟨A10, c10⟩, xs10⟩ w10 fr10 ⟨s10, r10, cc10, f10, o10, l10, q10, t10, hX10, hV10, hM10⟩
  dsimp only at r10 cc10 f10 l10 hM10
  -- its methods
  refine seq_cut (σ := (Option Addr × Nat) × List Mth) (fun _ => [(0, .slice A bs.length c), (2, .pointer (some ⟨V, 0, none⟩)), (3, zi 0), (4, .pointer (some ⟨X, 0, none⟩)), (7, .pointer (some ⟨M, 0, none⟩))]) (fun t w' => ∃ s', Rd (mthsT p.l) bs s10 t.2 s' ∧ csum cMth t.2 ≤ (22 + 58) * (s'.1 - s10.1) + 58 ∧ (∀ x ∈ t.2, i64 x.acc) ∧ On s10 s' ∧ LRep mthR w' (fun b => b < w10.heap.size) (.slice t.1.1 t.2.length t.1.2) t.2 ∧ Ir w' h g A c bs p s' ∧ Mod (fun b => RS h g b ∨ b = M) w10 w' ∧ w'.heap[X]? = some (.cells #[.pointer (some ⟨h, 0, none⟩)] 36 (0, 0)) ∧ w'.heap[V]? = some (.cells #[.slice none 0 0, .string ⟨#[]⟩, .string ⟨#[]⟩, .slice none 0 0, .slice none 0 0] 28 (0, 0)) ∧ w'.heap[M]? = some (.cells #[.slice A7 l.length c7, strV nm, strV sp, .slice A10 xs10.length c10, .slice t.1.1 t.2.length t.1.2] 28 (0, 0))) ?_ ?_
  rotate_left
  · intro K hK
    refine Exists.intro (some ⟨h, 0, none⟩) (And.intro (cell0 hX10) ?_)
    refine call_ (members_mth h g A c bs p s10 w10 q10 hO X hX10 hXn (by omega)) ?_
    rintro e wa ⟨v, xs, sa, rfl, la, ra, ca, _, oa, qa, ma, fa⟩
    obtain ⟨Ax, cx, rfl, _⟩ := la.get mthOk (by decide)
    refine ⟨_, rfl, ?_⟩
    have hMa := ma.blk hM10 hMr
    have hMl : M < w10.heap.size := (Array.getElem?_eq_some_iff.1 hM10).1
    refine And.intro ⟨_, cellB hMa rfl⟩ (And.intro (fzB hMa _) (force_ ?_))
    refine stK hMa (show (4 : Nat) < 5 by decide) ?_
    intro wb hMb mb sb
    exact hK ((Ax, cx), xs) _ _ ⟨rfl, rfl, rfl, rfl, rfl, trivial⟩ ⟨sa, ra, ca, fa, oa, LRep.mod mthOk (by decide) la (mb.mono fun b _ e => by omega), qa.modN mb (fun b hb e => hM0 b hb e), Mod.trans (ma.mono fun _ _ e => .inl e) mb fun _ _ e => .inr e, mb.blk (ma.blk hX10 hXn) hXM, mb.blk (ma.blk hV10 hVr) hVM, hMb⟩
  rintro ⟨⟨A11, c11⟩, xs11⟩ w11 fr11 ⟨s11, r11, cc11, f11, o11, l11, q11, t11, hX11, hV11, hM11⟩
  dsimp only at r11 cc11 f11 l11 hM11
  -- told again
  have hMl : M < w5.heap.size := (Array.getElem?_eq_some_iff.1 hM5).1
  have hgl : g < w1.heap.size := by omega
  have z6 := t6.size
  have z7 := t7.size
  have z8 := t8.size
  have z9 := t9.size
  have z10 := t10.size
  have z11 := t11.size
  have hlo : ∀ b, RS h g b ∨ b = M → b < w2.heap.size ∨ b = M := fun b e => by
    rcases e with (e | e) | e
    · have e : b = g := e; omega
    · have e : b = h := e; omega
    · exact .inr e
  have hup : ∀ b, RS h g b ∨ b = M → w.heap.size ≤ b ∧ b < w5.heap.size := fun b e => by
    have n0z := n0.size
    rcases e with (e | e) | e
    · have e : b = g := e; omega
    · have e : b = h := e; omega
    · omega
  have t511 : Mod (fun b => RS h g b ∨ b = M) w5 w11 := both (both (both (both (both t6 t7) t8) t9) t10) t11
  have lp11 := LRep.mod entOk (by decide) lp5 (t511.mono fun b _ e => hlo b e)
  have lf11 := LRep.mod fldOk (by decide) l10 (t11.mono fun b _ e => by have := (hup b e).2; omega)
  have n11 : New w w11 := Mod.trans (Mod.trans (Mod.trans n3 m4 fun b hb e => by have n0z := n0.size; omega) n5.mod fun _ _ e => e) t511 fun b hb e => by have := (hup b e).1; omega
  obtain ⟨x, hx⟩ : ∃ x : Cls, x = ⟨l, nm, sp, xs10, xs11⟩ := ⟨_, rfl⟩
  have hclsV : clsR w11 (fun b => b < w.heap.size ∨ b = V) [.slice A7 l.length c7, strV nm, strV sp, .slice A10 xs10.length c10, .slice A11 xs11.length c11] x := by
    have n0z := n0.size
    have n1z := n1.size
    rw [hx]
    exact ⟨_, _, _, rfl, LRep.weak entOk lp11 (fun b _ e => .inl (by omega)), LRep.weak fldOk lf11 (fun b _ e => by omega), LRep.weak mthOk l11 (fun b _ e => by omega)⟩
  have hcls := clsOk.weak (S' := fun b => b < w.heap.size) hclsV fun b hb e => .inl e
  have hfx : fCls x := by rw [hx]; exact ⟨oks3, f10, f11⟩
  have hcx : cCls x ≤ 500000000 := by
    rw [hx]
    show csum cFld xs10 + csum cMth xs11 ≤ _
    have b10 := o10.1
    have b11 := o11.1
    have := r11.2.1
    omega
  have hmath : ∀ y, Is bs y → y = x ∧ s11.2 = false := fun y hy => by
    rw [hs5] at r6
    rw [hp] at r7 r8 r10 r11
    rw [hx]
    exact parse_math hy hr3 r6 r7 r8 r9 r10 r11
  have hzw := n11.size
  refine seq_cut (σ := Unit) (fun _ => [(0, .slice A bs.length c), (2, .pointer (some ⟨V, 0, none⟩)), (3, zi 0), (7, .pointer (some ⟨M, 0, none⟩))]) (fun _ w' => New w11 w' ∧ Is bs x) ?_ ?_
  rotate_left
  · intro K hK
    refine seq_cut (σ := (Option Addr × Nat) × List UInt8 × Int) (fun t => [(0, .slice A bs.length c), (2, .pointer (some ⟨V, 0, none⟩)), (3, zi 0), (4, .pointer (some ⟨X, 0, none⟩)), (7, .pointer (some ⟨M, 0, none⟩)), (9, .slice t.1.1 t.2.1.length t.1.2), (10, zi t.2.2)]) (fun t w' => t.2.1 = bytesOf x ∧ t.2.2 = errOf x ∧ Row w' t.1.1 (bvs t.2.1) ∧ New w11 w') ?_ ?_
    rotate_left
    · intro K2 hK2
      refine loadN_row (vs := [.slice A7 l.length c7, strV nm, strV sp, .slice A10 xs10.length c10, .slice A11 xs11.length c11]) (rowB hM11) rfl ?_
      refine call_ (Print_ok _ x (fun b => b < w.heap.size) w11 hcls hfx (fun k h0 h5 => n11.cell (hk k h0 h5)) (by omega) hcx) ?_
      rintro e wa ⟨A2, q2, rfl, row2, _, _, na⟩
      refine ⟨_, rfl, ?_⟩
      exact hK2 ((A2, q2), bytesOf x, errOf x) _ _ ⟨rfl, rfl, rfl, rfl, rfl, rfl, rfl, trivial⟩ ⟨rfl, rfl, row2, na⟩
    rintro ⟨⟨A12, c12⟩, by_, er⟩ w12 fr12 ⟨hby, her, row12, n12⟩
    dsimp only at hby her row12
    have hX12 := n12.blk hX11
    have hV12 := n12.blk hV11
    have hq12 := n12.blk q11.blk
    have nn := n11.trans n12
    refine Exists.intro (some ⟨h, 0, none⟩) (And.intro (cell0 hX12) ?_)
    refine Exists.intro s11.2 (And.intro (cellB hq12 rfl) ?_)
    refine if_ (fun hb => ?_) (fun hb => ?_)
    · replace hb : s11.2 = true := hb
      refine And.intro rfl ?_
      refine storeN_all (vs := zeroC) hV12 rfl one_zero ?_
      intro wz hz mz sz
      refine loadN_row (vs := zeroC) (rowB hz) rfl ?_
      exact pres_bad (nn) mz (by omega) (fun y hy => by rw [(hmath y hy).2] at hb; cases hb) (by rw [if_neg (by omega)]; rfl)
    · refine if_n (fun hne => ?_) (fun heq => ?_)
      · refine And.intro rfl ?_
        refine storeN_all (vs := zeroC) hV12 rfl one_zero ?_
        intro wz hz mz sz
        refine loadN_row (vs := zeroC) (rowB hz) rfl ?_
        exact pres_bad (nn) mz (by omega) (fun y hy => hne (by rw [her, ← (hmath y hy).1]; exact hy.1)) (by rw [if_neg (by omega)]; rfl)
      · refine call_ (Equal_ok A12 c12 by_ A c bs w12 row12 ((hr.new nn))) ?_
        rintro e wa ⟨rfl, hwa⟩
        obtain rfl := hwa.symm
        refine ⟨_, rfl, ?_⟩
        refine if_n (fun hne => ?_) (fun he => ?_)
        · refine And.intro rfl ?_
          refine storeN_all (vs := zeroC) hV12 rfl one_zero ?_
          intro wz hz mz sz
          refine loadN_row (vs := zeroC) (rowB hz) rfl ?_
          exact pres_bad (nn) mz (by omega) (fun y hy => hne (by rw [hby, ← (hmath y hy).1]; exact hy.2)) (by rw [if_neg (by omega)]; rfl)
        · exact hK () _ _ ⟨rfl, rfl, rfl, rfl, trivial⟩ ⟨n12, by rw [← her]; exact heq, by rw [← hby]; exact he⟩
  rintro _ w12 fr12 ⟨n12, hIs⟩
  have hV12 := n12.blk hV11
  have hM12 := n12.blk hM11
  have nn := n11.trans n12
  refine loadN_row (vs := [.slice A7 l.length c7, strV nm, strV sp, .slice A10 xs10.length c10, .slice A11 xs11.length c11]) (rowB hM12) rfl ?_
  refine And.intro rfl ?_
  refine storeN_all (vs := [.slice A7 l.length c7, strV nm, strV sp, .slice A10 xs10.length c10, .slice A11 xs11.length c11]) hV12 rfl (one_cls _ _ _ _ _ _ _ _ _ _ _) ?_
  intro wz hz mz sz
  refine loadN_row (vs := [.slice A7 l.length c7, strV nm, strV sp, .slice A10 xs10.length c10, .slice A11 xs11.length c11]) (rowB hz) rfl ?_
  have hcls12 := clsOk.mod hclsV (n12.mod.mono fun _ _ e => False.elim e)
  have hclsz : clsR wz (fun b => b < w.heap.size) [.slice A7 l.length c7, strV nm, strV sp, .slice A10 xs10.length c10, .slice A11 xs11.length c11] x := clsOk.weak (clsOk.mod hcls12 (mz.mono fun b _ e => .inr e)) fun b _ e => .inl e
  exact ⟨nn.st mz (by omega), .inl ⟨_, x, rfl, hclsz, hfx, hcx, hIs⟩⟩

end Go.Proofs.YtdcaafldnbcdkaaGreatDoor.Class

/-! ### KPar1 -/
namespace Go.Proofs.YtdcaafldnbcdkaaGreatDoor.Class
open Go Go.Proofs.YtdcaafldnbcdkaaGreatDoor Go.Proofs.YtdcaafldnbcdkaaGreatDoor.Eng Go.Proofs Go.Proofs.YtdcaafldnbcdkaaGreatDoor.Word Go.Proofs.YtdcaafldnbcdkaaGreatDoor.Fmt
open Go.Proofs.YtdcaafldnbcdkaaGreatDoor.Pool (Ent at_ poolF strV entC entV EntOk Pl OkPool both own_low tagAt)
set_option maxRecDepth 10000

/-- The document's reader in memory. -/
structure Re (w : World) (g : Nat) (ux uy : Value) (A : Option Addr) (c : Nat) (bs : List UInt8) (i : Nat) : Prop where
  blk : w.heap[g]? = some (.cells #[.slice A bs.length c, .int .i64 i, ux, uy] 66 (0, 0))
  row : Row w A (bvs bs)
  off : bs ≠ [] → ∀ a, A = some a → a.block ≠ g
  at_ : i ≤ bs.length
  cap : bs.length ≤ c
  top : c ≤ 9223372036854775807
theorem Re.c0 {w : World} {g : Nat} {ux uy : Value} {A : Option Addr} {c : Nat} {bs : List UInt8} {i : Nat} (h : Re w g ux uy A c bs i) : w.cell? ⟨g, 0, none⟩ = some (.slice A bs.length c) := by
  rw [cell_of_row _ _ 0 _ _ _ h.blk]; rfl
theorem Re.c1 {w : World} {g : Nat} {ux uy : Value} {A : Option Addr} {c : Nat} {bs : List UInt8} {i : Nat} (h : Re w g ux uy A c bs i) : w.cell? ⟨g, 1, none⟩ = some (.int .i64 i) := by
  rw [cell_of_row _ _ 1 _ _ _ h.blk]; rfl
theorem Re.new {w w' : World} {g : Nat} {ux uy : Value} {A : Option Addr} {c : Nat} {bs : List UInt8} {i : Nat} (h : Re w g ux uy A c bs i) (k : New w w') : Re w' g ux uy A c bs i :=
  ⟨k.blk h.blk, h.row.new k, h.off, h.at_, h.cap, h.top⟩
theorem Re.mod {S : Nat → Prop} {w w' : World} {g : Nat} {ux uy : Value} {A : Option Addr} {c : Nat} {bs : List UInt8} {i : Nat} (h : Re w g ux uy A c bs i) (k : Mod S w w') (hg : ¬ S g) (ha : bs ≠ [] → ∀ a, A = some a → ¬ S a.block) : Re w' g ux uy A c bs i :=
  ⟨k.blk h.blk hg, row_mod2 k h.row ha, h.off, h.at_, h.cap, h.top⟩
theorem Re.lt {w : World} {g : Nat} {ux uy : Value} {A : Option Addr} {c : Nat} {bs : List UInt8} {i : Nat} (h : Re w g ux uy A c bs i) : g < w.heap.size := (Array.getElem?_eq_some_iff.1 h.blk).1
theorem Re.put {w : World} {g : Nat} {ux uy : Value} {A : Option Addr} {c : Nat} {bs : List UInt8} {i : Nat} (h : Re w g ux uy A c bs i) {j : Nat} (hj : j ≤ bs.length) {v : Value} (hv : v = .int .i64 j) :
    Re (w.setCell ⟨g, 1, none⟩ v) g ux uy A c bs j ∧ Mod (fun k => k = g) w (w.setCell ⟨g, 1, none⟩ v) := by
  subst hv
  have m := Mod.set w ⟨g, 1, none⟩ (.int .i64 j)
  refine ⟨⟨?_, row_mod2 m h.row (fun hb a ha => h.off hb a ha), h.off, hj, h.cap, h.top⟩, m⟩
  have := heap_setCell_same w g 1 _ _ (.int .i64 (j : Int)) h.blk
  rw [this]
  rfl
theorem Re.fz {w : World} {g : Nat} {ux uy : Value} {A : Option Addr} {c : Nat} {bs : List UInt8} {i : Nat} (h : Re w g ux uy A c bs i) (j : Nat) : w.frozen? ⟨g, j, none⟩ = false := frozen_of_row w g j _ _ h.blk

theorem ReGet_ok (g : Nat) (ux uy : Value) (A : Option Addr) (c : Nat) (bs : List UInt8) (i : Nat) (k : Int) (sign : Bool) (w : World) (h : Re w g ux uy A c bs i) :
    Calls Tryz.prog 63 #[.pointer (some ⟨g, 0, none⟩), .int .i64 k, .bool sign] w fun e w' => e = .returned (.tuple #[.int .i64 (get sign bs i k).1, .int .i64 (get sign bs i k).2.1]) ∧ Re w' g ux uy A c bs (get sign bs i k).2.2 ∧ Mod (fun b => b = g) w w' := by
  refine enter ok Tryz.func63 rfl rfl rfl ?_
  refine call_ (refwide_ok k w) ?_
  rintro e w' ⟨rfl, rfl⟩
  refine ⟨_, rfl, ?_⟩
  have ha := h.at_
  have hb := h.cap
  have hc := h.top
  refine if_ (fun hwk => ?_) (fun hwk => ?_)
  · rw [get_unwide (by simpa using hwk)]
    exact ⟨rfl, h, Mod.refl _ _⟩
  replace hwk : wide k = true := by simpa using hwk
  have hk := wide_cases hwk
  obtain ⟨n, rfl⟩ : ∃ n : Nat, k = n := ⟨k.toNat, by omega⟩
  refine draw_ ok (.q 0 (.q 1 (.q 2 (.q 3 (.q 4 (.q 5 (.q 6 (.q 7 (.q 8 (.q 9 (.q 10 (.q 11 .done)))))))))))) [11] (New w') (by kernel_rfl) (by kernel_rfl) (by kernel_rfl) (by kernel_rfl) (by kernel_rfl) (New.drew w') ?_
  refine Exists.intro A (Exists.intro bs.length (Exists.intro c (And.intro (fun w'' hw => by rw [ad1]; exact hw.cell h.c0) ?_)))
  refine Exists.intro (i : Int) (And.intro (fun w'' hw => by rw [ad1]; exact hw.cell h.c1) ?_)
  have hw1 := h.new (New.drew w')
  have esub : IntKind.i64.wrap ((bs.length : Int) - (i : Int)) = (bs.length : Int) - i := wrap_i64 (by omega) (by omega)
  refine if_p (fun hl => ?_) (fun hl => ?_)
  · rw [esub] at hl
    rw [get_short hwk hl]
    exact ⟨rfl, hw1, (New.drew _).mod⟩
  rw [esub] at hl
  have hin : i + n ≤ bs.length := by omega
  obtain ⟨g1, g2⟩ := get_num sign bs i n hwk hin
  have ein : IntKind.i64.wrap ((i : Int) + (n : Int)) = ((i + n : Nat) : Int) := by
    rw [wrap_i64 (by omega) (by omega)]
    omega
  have hlc : ((bs.drop i).take n).length = n := by rw [List.length_take, List.length_drop]; omega
  refine draw_ ok (.q 0 (.q 1 (.q 2 (.q 3 (.q 4 (.q 5 (.q 6 (.q 7 (.q 8 (.q 9 (.q 10 (.q 11 (.q 12 (.q 13 (.q 14 (.q 15 (.e 16 (.q 17 (.q 18 (.q 19 (.q 20 (.q 21 .done)))))))))))))))))))))) [21] (New w'.drew) (by kernel_rfl) (by kernel_rfl) (by kernel_rfl) (by kernel_rfl) (by kernel_rfl) (New.drew _) ?_
  refine Exists.intro A (Exists.intro bs.length (Exists.intro c (And.intro (fun w'' hw => by rw [ad1]; exact hw.cell hw1.c0) ?_)))
  refine Exists.intro (i : Int) (And.intro (fun w'' hw => by rw [ad1]; exact hw.cell hw1.c1) ?_)
  refine Exists.intro (i : Int) (And.intro (fun w'' hw => by rw [ad1]; exact hw.cell hw1.c1) ?_)
  refine And.intro (by omega) (And.intro (by rw [ein]; omega) (And.intro (by rw [ein]; omega) ?_))
  have hw2 := hw1.new (New.drew _)
  have nn : New w' w'.drew.drew := (New.drew _).trans (New.drew _)
  refine call_ (Number_ok (slA A c i 1) _ _ ((bs.drop i).take n) sign w'.drew.drew (by rw [ein, hlc]; omega) (row_cut hw2.row hb i n) (by rw [hlc]; exact hwk)) ?_
  rintro e w3 ⟨rfl, rfl⟩
  refine ⟨_, rfl, ?_⟩
  refine Exists.intro (New w'.drew) (And.intro (fun _ h => h) (And.intro (New.drew _) ?_))
  generalize (num sign ((bs.drop i).take n)).1 = r1 at g1 g2
  generalize (num sign ((bs.drop i).take n)).2 = r2 at g1 g2
  refine if_n (fun hne => ?_) (fun he => ?_)
  · rw [g2 hne]
    exact ⟨rfl, hw2, nn.mod⟩
  · rw [g1 he]
    obtain ⟨hput, hmod⟩ := hw2.put (j := i + n) hin (v := .int .i64 (IntKind.i64.wrap ((i : Int) + (n : Int)))) (by rw [ein])
    refine Exists.intro (i : Int) (And.intro (by rw [ad1]; exact hw2.c1) (And.intro ⟨_, by rw [ad1]; exact hw2.c1⟩ (And.intro (by rw [ad1]; exact hw2.fz 1) ⟨rfl, ?_, ?_⟩)))
    · rw [ad1]
      exact hput
    · rw [ad1]
      exact Mod.trans nn.mod hmod fun _ _ h => h

theorem ReBytes_ok (g : Nat) (ux uy : Value) (A : Option Addr) (c : Nat) (bs : List UInt8) (i : Nat) (k : Int) (w : World) (h : Re w g ux uy A c bs i) (hm : bs.length ≤ 140737488355328) :
    Calls Tryz.prog 68 #[.pointer (some ⟨g, 0, none⟩), .int .i64 k] w fun e w' => ∃ v, e = .returned (.tuple #[v, .int .i64 (getB bs i k).2.1]) ∧ w'.ownsRow w.heap.size 5 1 v (getB bs i k).1.length (bvs (getB bs i k).1) ∧ Re w' g ux uy A c bs (getB bs i k).2.2 ∧ Mod (fun b => b = g) w w' := by
  refine enter ok Tryz.func68 rfl rfl rfl ?_
  have ha := h.at_
  have hb := h.cap
  have hc := h.top
  have nil : ∀ w' : World, w'.ownsRow w.heap.size 5 1 (.slice none 0 0) 0 (bvs []) := fun _ => ⟨rfl, .inl ⟨rfl, rfl⟩⟩
  refine if_p (fun hneg => ?_) (fun hneg => ?_)
  · have : getB bs i k = ([], 2, i) := by unfold getB; rw [if_pos hneg]
    rw [this]
    exact ⟨_, rfl, nil _, h, Mod.refl _ _⟩
  refine draw_ ok (.q 0 (.q 1 (.q 2 (.q 3 (.q 4 (.q 5 (.q 6 (.q 7 (.q 8 (.q 9 (.q 10 (.q 11 .done)))))))))))) [11] (New w) (by kernel_rfl) (by kernel_rfl) (by kernel_rfl) (by kernel_rfl) (by kernel_rfl) (New.drew w) ?_
  refine Exists.intro A (Exists.intro bs.length (Exists.intro c (And.intro (fun w'' hw => by rw [ad1]; exact hw.cell h.c0) ?_)))
  refine Exists.intro (i : Int) (And.intro (fun w'' hw => by rw [ad1]; exact hw.cell h.c1) ?_)
  have hw1 := h.new (New.drew w)
  have esub : IntKind.i64.wrap ((bs.length : Int) - (i : Int)) = (bs.length : Int) - i := wrap_i64 (by omega) (by omega)
  refine if_p (fun hl => ?_) (fun hl => ?_)
  · rw [esub] at hl
    have : getB bs i k = ([], 7, i) := by unfold getB; rw [if_neg hneg, if_pos hl]
    rw [this]
    exact ⟨_, rfl, nil _, hw1, (New.drew _).mod⟩
  rw [esub] at hl
  obtain ⟨n, rfl⟩ : ∃ n : Nat, k = n := ⟨k.toNat, by omega⟩
  have hin : i + n ≤ bs.length := by omega
  have hgb : getB bs i n = ((bs.drop i).take n, 0, i + n) := by unfold getB; rw [if_neg hneg, if_neg hl, Int.toNat_natCast]
  rw [hgb]
  have hlc : ((bs.drop i).take n).length = n := by rw [List.length_take, List.length_drop]; omega
  have ein : IntKind.i64.wrap ((i : Int) + (n : Int)) = ((i + n : Nat) : Int) := by
    rw [wrap_i64 (by omega) (by omega)]
    omega
  have eout : IntKind.i64.wrap (((i + n : Nat) : Int) - (n : Int)) = (i : Int) := by
    rw [wrap_i64 (by omega) (by omega)]
    omega
  obtain ⟨hput, hmod⟩ := hw1.put (j := i + n) hin (v := .int .i64 (IntKind.i64.wrap ((i : Int) + (n : Int)))) (by rw [ein])
  refine Exists.intro (i : Int) (And.intro (by rw [ad1]; exact hw1.c1) (And.intro ⟨_, by rw [ad1]; exact hw1.c1⟩ (And.intro (by rw [ad1]; exact hw1.fz 1) ?_)))
  replace hput : Re (w.drew.setCell ((⟨g, 0, none⟩ : Addr).add 1) (.int .i64 (IntKind.i64.wrap ((i : Int) + (n : Int))))) g ux uy A c bs (i + n) := by rw [ad1]; exact hput
  have mm : Mod (fun b => b = g) w (w.drew.setCell ((⟨g, 0, none⟩ : Addr).add 1) (.int .i64 (IntKind.i64.wrap ((i : Int) + (n : Int))))) := by rw [ad1]; exact Mod.trans (New.drew w).mod hmod fun _ _ h => h
  have hs1 := mm.size
  refine draw_ ok (.q 1 (.q 2 (.q 3 (.q 4 (.q 5 (.q 6 (.q 7 (.q 8 (.q 9 (.q 10 (.q 11 (.q 12 (.q 13 (.q 14 (.q 15 (.e 0 (.e 16 (.q 17 (.q 18 .done))))))))))))))))))) [18] (New (w.drew.setCell ((⟨g, 0, none⟩ : Addr).add 1) (.int .i64 (IntKind.i64.wrap ((i : Int) + (n : Int)))))) (by kernel_rfl) (by kernel_rfl) (by kernel_rfl) (by kernel_rfl) (by kernel_rfl) (New.drew _) ?_
  refine Exists.intro A (Exists.intro bs.length (Exists.intro c (And.intro (fun w'' hw => by rw [ad1 g 0]; exact hw.cell hput.c0) ?_)))
  refine Exists.intro ((i + n : Nat) : Int) (And.intro (fun w'' hw => by have := hw.cell hput.c1; rw [← ad1] at this; exact this) ?_)
  refine Exists.intro ((i + n : Nat) : Int) (And.intro (fun w'' hw => by have := hw.cell hput.c1; rw [← ad1] at this; exact this) ?_)
  refine And.intro (by rw [eout]; omega) (And.intro (by rw [eout]; omega) (And.intro (by omega) ?_))
  have n3 : New (w.drew.setCell ((⟨g, 0, none⟩ : Addr).add 1) (.int .i64 (IntKind.i64.wrap ((i : Int) + (n : Int))))) ((w.drew.setCell ((⟨g, 0, none⟩ : Addr).add 1) (.int .i64 (IntKind.i64.wrap ((i : Int) + (n : Int))))).drew.alloc (.cells #[] 5)) := (New.drew (w.drew.setCell ((⟨g, 0, none⟩ : Addr).add 1) (.int .i64 (IntKind.i64.wrap ((i : Int) + (n : Int)))))).trans (New.alloc _ _)
  refine Exists.intro (New (w.drew.setCell ((⟨g, 0, none⟩ : Addr).add 1) (.int .i64 (IntKind.i64.wrap ((i : Int) + (n : Int)))))) (And.intro (fun _ h => h) (And.intro n3 ?_))
  refine eff_app rfl rfl (fun _ _ => rfl) ?_
  have hcut := row_cut (hput.row.new n3) hb i n
  refine append2_ ok rfl rfl rfl rfl (own_lit (w.drew.setCell ((⟨g, 0, none⟩ : Addr).add 1) (.int .i64 (IntKind.i64.wrap ((i : Int) + (n : Int))))).drew [] 5 1 0 w.heap.size hs1 rfl (by omega)) rfl rfl (news := bvs ((bs.drop i).take n)) (by rw [eout, Int.toNat_natCast]; exact hcut) (by rw [bvs_length, hlc, eout]; exact (show n = ((i + n : Nat) : Int).toNat - (i : Int).toNat by omega).trans (Nat.mul_one _).symm) (bvs_one _) (by decide) rfl (by rw [eout]; show (0 + (((i + n : Nat) : Int).toNat - (i : Int).toNat)) * 1 ≤ _; omega) (by rw [eout]; omega) (by simp) ?_
  intro A' c' w' hown hmod2 hst
  have nw : New (w.drew.setCell ((⟨g, 0, none⟩ : Addr).add 1) (.int .i64 (IntKind.i64.wrap ((i : Int) + (n : Int))))) w' := Mod.trans n3 hmod2 (by
    intro b hb e
    simp only [Value.ownBlock, Option.some.injEq] at e
    subst e
    exact absurd hb (Nat.lt_irrefl _))
  refine Exists.intro (New (w.drew.setCell ((⟨g, 0, none⟩ : Addr).add 1) (.int .i64 (IntKind.i64.wrap ((i : Int) + (n : Int)))))) (And.intro (fun _ h => h) (And.intro nw ?_))
  have el : 0 + (((i + n : Nat) : Int).toNat - (IntKind.i64.wrap (((i + n : Nat) : Int) - (n : Int))).toNat) = ((bs.drop i).take n).length := by rw [eout, hlc]; omega
  rw [el] at hown
  refine ⟨_, rfl, ?_, hput.new nw, Mod.trans mm nw (fun _ _ h => h.elim)⟩
  have e0 : ([] : List Value) ++ bvs ((bs.drop i).take n) = bvs ((bs.drop i).take n) := rfl
  rw [e0] at hown
  have e2 : (Value.slice A' (0 + (((i + n : Nat) : Int).toNat - (IntKind.i64.wrap (((i + n : Nat) : Int) - (n : Int))).toNat)) c') = .slice A' ((bs.drop i).take n).length c' := by rw [el]
  exact e2 ▸ hown
end Go.Proofs.YtdcaafldnbcdkaaGreatDoor.Class

/-! ### KPar2 -/
namespace Go.Proofs.YtdcaafldnbcdkaaGreatDoor.Class
open Go Go.Proofs.YtdcaafldnbcdkaaGreatDoor Go.Proofs.YtdcaafldnbcdkaaGreatDoor.Eng Go.Proofs Go.Proofs.YtdcaafldnbcdkaaGreatDoor.Word Go.Proofs.YtdcaafldnbcdkaaGreatDoor.Fmt
open Go.Proofs.YtdcaafldnbcdkaaGreatDoor.Pool (Ent at_ poolF strV entC entV entZ entC_one EntOk Pl OkPool both own_low tagAt e0 numR bodyR textR loopR readR readEnd tailOf)
set_option maxRecDepth 10000

theorem numR0 (bs : List UInt8) (sign : Bool) (k i : Nat) : numR bs sign k (i, 0) = ((get sign bs i k).1, (get sign bs i k).2.2, (get sign bs i k).2.1) := if_pos rfl
theorem numRn (bs : List UInt8) (sign : Bool) (k i : Nat) {er : Int} (h : er ≠ 0) : numR bs sign k (i, er) = (0, i, er) := if_neg h
section
variable {w w' : World} {g : Nat} {ux uy : Value} {A : Option Addr} {c : Nat} {bs : List UInt8} {i : Nat}
theorem Re.alt (p : Re w g ux uy A c bs i) : ∀ a, A = some a → bs ≠ [] → a.block < w.heap.size := fun a ha hn => by
  refine p.row.lt (fun e => hn ?_) ha
  have := congrArg List.length e
  rw [bvs_length] at this
  exact List.eq_nil_of_length_eq_zero this
/-- What is new changes. -/
theorem Re.fresh {S : Nat → Prop} (p : Re w g ux uy A c bs i) {j : Nat} {vx vy : Value} {w1 : World} (q : Re w1 g vx vy A c bs j) (m : Mod S w1 w') (hS : ∀ b, S b → w.heap.size ≤ b) : Re w' g vx vy A c bs j :=
  q.mod m (fun e => by have := hS _ e; have := p.lt; omega) fun hn a ha e => by have := hS _ e; have := p.alt a ha hn; omega
end
theorem refentry_ok (g : Nat) (ux uy : Value) (A : Option Addr) (c : Nat) (bs : List UInt8) (i : Nat) (w : World) (p : Re w g ux uy A c bs i) (hm : bs.length ≤ 140737488355328) :
    Calls Tryz.prog 64 #[.pointer (some ⟨g, 0, none⟩)] w fun e w' => e = .returned (.tuple #[entV (Pool.entR bs (i, 0)).1, .int .i64 (Pool.entR bs (i, 0)).2.2]) ∧ Re w' g ux uy A c bs (Pool.entR bs (i, 0)).2.1 ∧ Mod (fun b => b = g) w w' := by
  have hgl := p.lt
  refine enter ok Tryz.func64 rfl rfl rfl ?_
  obtain ⟨V, hV⟩ : ∃ V, V = w.heap.size := ⟨_, rfl⟩
  refine seq_cut (σ := Unit) (fun _ => [(0, .pointer (some ⟨g, 0, none⟩)), (2, .pointer (some ⟨V, 0, none⟩))]) (fun _ w' => New w w' ∧ w'.heap[V]? = some (.cells entZ 85 (0, 0))) ?_ ?_
  rotate_left
  · intro K hK
    rw [hV] at hK
    exact hK () _ _ ⟨rfl, rfl, trivial⟩ ⟨New.alloc w _, heap_alloc_new w (.cells entZ 85)⟩
  rintro _ w0 fr0 ⟨n0, hV0⟩
  have hVl := (Array.getElem?_eq_some_iff.1 hV0).1
  refine seq_cut (σ := Int × Int) (fun s => [(0, .pointer (some ⟨g, 0, none⟩)), (2, .pointer (some ⟨V, 0, none⟩)), (4, zi s.1), (5, zi s.2)]) (fun s w' => s = ((get false bs i 1).1, (get false bs i 1).2.1) ∧ Re w' g ux uy A c bs (get false bs i 1).2.2 ∧ Mod (fun b => b = g) w0 w') ?_ ?_
  rotate_left
  · intro K hK
    refine call_ (ReGet_ok g ux uy A c bs i 1 false w0 (p.new n0)) ?_
    rintro e w1 ⟨rfl, p1, m1⟩
    refine ⟨_, rfl, ?_⟩
    exact hK (_, _) _ _ ⟨rfl, rfl, rfl, rfl, trivial⟩ ⟨rfl, p1, m1⟩
  rintro ⟨t, er⟩ w1 fr1 ⟨hs, p1, m1⟩
  have hV1 := m1.blk hV0 (by omega)
  have k1 : Mod (fun b => b = g) w w1 := Mod.trans n0.mod m1 fun _ _ e => e
  have s1 := m1.size
  have hn := numR0 bs false 1 i
  generalize (get false bs i 1).2.2 = j at p1 hn
  have ht : numR bs false 1 (i, 0) = (t, j, er) := by rw [hn]; obtain ⟨e1, e2⟩ := Prod.mk.inj hs; rw [e1, e2]; rfl
  obtain ⟨X, hX⟩ : ∃ X, X = w1.heap.size := ⟨_, rfl⟩
  refine seq_cut (σ := Unit) (fun _ => [(0, .pointer (some ⟨g, 0, none⟩)), (2, .pointer (some ⟨V, 0, none⟩)), (4, zi t), (5, zi er), (6, .pointer (some ⟨X, 0, none⟩))]) (fun _ w' => New w1 w' ∧ w'.heap[X]? = some (.cells (entC ⟨t, [], 0, 0, 0⟩).toArray 85 (0, 0))) ?_ ?_
  rotate_left
  · intro K hK
    refine And.intro rfl ?_
    refine storeNew (vs := entC ⟨t, [], 0, 0, 0⟩) (arr := entZ) rfl (entC_one _) ?_
    intro w2 hb2 n2 s2
    rw [hX] at hK
    exact hK () _ _ ⟨rfl, rfl, rfl, rfl, rfl, trivial⟩ ⟨n2, hb2⟩
  rintro _ w2 fr2 ⟨n2, hX2⟩
  have p2 := p1.new n2
  have hV2 := n2.blk hV1
  have k2 := k1.trans n2 fun _ _ e => False.elim e
  have s2 := n2.size
  have hXl := (Array.getElem?_eq_some_iff.1 hX2).1
  refine seq_cut (σ := Unit) (fun _ => [(0, .pointer (some ⟨g, 0, none⟩)), (2, .pointer (some ⟨V, 0, none⟩)), (4, zi t), (5, zi er), (6, .pointer (some ⟨X, 0, none⟩))]) (fun _ w' => w' = w2 ∧ er = 0) ?_ ?_
  rotate_left
  · intro K hK
    refine if_n (fun hne => ?_) (fun h0 => ?_)
    · replace hne : ¬ er = 0 := hne
      have hR : Pool.entR bs (i, 0) = (⟨t, [], 0, 0, 0⟩, j, er) := by
        unfold Pool.entR
        rw [ht]
        exact if_neg hne
      refine loadN_row (vs := entC ⟨t, [], 0, 0, 0⟩) (rowB hX2) rfl ?_
      refine And.intro rfl ?_
      refine storeN_all (vs := entC ⟨t, [], 0, 0, 0⟩) hV2 rfl (entC_one _) ?_
      intro w90 hb90 m90 s90
      refine loadN_row (vs := entC ⟨t, [], 0, 0, 0⟩) (rowB hb90) rfl ?_
      rw [hR]
      exact ⟨rfl, p.fresh p2 m90 (fun b e => by omega), Mod.trans k2 m90 fun b hb e => by omega⟩
    · exact hK () _ _ ⟨rfl, rfl, rfl, rfl, rfl, trivial⟩ ⟨rfl, h0⟩
  rintro _ wy fry ⟨hwy, her⟩
  obtain rfl := hwy.symm
  subst her
  have hR : Pool.entR bs (i, 0) = bodyR bs t (j, 0) := by
    unfold Pool.entR
    rw [ht]
    exact if_pos rfl
  refine seq_cut (σ := Ent × Nat × Int) (fun y => [(0, .pointer (some ⟨g, 0, none⟩)), (2, .pointer (some ⟨V, 0, none⟩)), (5, zi y.2.2), (6, .pointer (some ⟨X, 0, none⟩))]) (fun y w' => Pool.entR bs (i, 0) = y ∧ Re w' g ux uy A c bs y.2.1 ∧ Mod (fun b => b = g) w w' ∧ w'.heap[V]? = some (.cells entZ 85 (0, 0)) ∧ w'.heap[X]? = some (.cells (entC y.1).toArray 85 (0, 0))) ?_ ?_
  · rintro ⟨y, jy, ey⟩ w3 fr3 ⟨he, p3, k3, hV3, hX3⟩
    dsimp only at p3 hX3
    refine loadN_row (vs := entC y) (rowB hX3) rfl ?_
    refine And.intro rfl ?_
    refine storeN_all (vs := entC y) hV3 rfl (entC_one _) ?_
    intro w90 hb90 m90 s90
    refine loadN_row (vs := entC y) (rowB hb90) rfl ?_
    rw [he]
    exact ⟨rfl, p.fresh p3 m90 (fun b e => by omega), Mod.trans k3 m90 fun b hb e => by omega⟩
  intro K hK
  refine seq_cut (σ := Int) (fun k => [(0, .pointer (some ⟨g, 0, none⟩)), (2, .pointer (some ⟨V, 0, none⟩)), (4, zi t), (5, zi 0), (6, .pointer (some ⟨X, 0, none⟩)), (21, zi k)]) (fun k w' => w' = w2 ∧ k = t) ?_ ?_
  rotate_left
  · intro K2 hK2
    exact hK2 t _ _ ⟨rfl, rfl, rfl, rfl, rfl, rfl, trivial⟩ ⟨rfl, rfl⟩
  rintro kt wz frz ⟨hwz, hkt⟩
  obtain rfl := hwz.symm
  subst hkt
  refine block_ ?_
  unfold bodyR at hR
  refine if_p (fun h1 => ?_) (fun h1 => ?_)
  · replace h1 : kt = 1 := h1
    rw [if_pos h1] at hR
    refine seq_cut (σ := Int × Int) (fun s => [(0, .pointer (some ⟨g, 0, none⟩)), (2, .pointer (some ⟨V, 0, none⟩)), (6, .pointer (some ⟨X, 0, none⟩)), (7, zi s.1), (8, zi s.2)]) (fun s w' => s = ((get false bs j 2).1, (get false bs j 2).2.1) ∧ Re w' g ux uy A c bs (get false bs j 2).2.2 ∧ Mod (fun b => b = g) w2 w') ?_ ?_
    rotate_left
    · intro K2 hK2
      refine call_ (ReGet_ok g ux uy A c bs j 2 false w2 p2) ?_
      rintro e w3 ⟨rfl, p3, m3⟩
      refine ⟨_, rfl, ?_⟩
      exact hK2 (_, _) _ _ ⟨rfl, rfl, rfl, rfl, rfl, trivial⟩ ⟨rfl, p3, m3⟩
    rintro ⟨z, ez⟩ w3 fr3 ⟨hs3, p3, m3⟩
    have hV3 := m3.blk hV2 (by omega)
    have hX3 := m3.blk hX2 (by omega)
    have k3 := k2.trans m3 fun _ _ e => e
    have s3 := m3.size
    have hn3 := numR0 bs false 2 j
    generalize (get false bs j 2).2.2 = jz at p3 hn3
    have hz : numR bs false 2 (j, 0) = (z, jz, ez) := by rw [hn3]; obtain ⟨e1, e2⟩ := Prod.mk.inj hs3; rw [e1, e2]; rfl
    rw [hz] at hR
    unfold textR at hR
    refine seq_cut (σ := Unit) (fun _ => [(0, .pointer (some ⟨g, 0, none⟩)), (2, .pointer (some ⟨V, 0, none⟩)), (6, .pointer (some ⟨X, 0, none⟩)), (7, zi z), (8, zi ez)]) (fun _ w' => w' = w3 ∧ ez = 0) ?_ ?_
    rotate_left
    · intro K2 hK2
      refine if_n (fun hne => ?_) (fun h0 => ?_)
      · replace hne : ¬ ez = 0 := hne
        rw [if_neg (show ¬ (z, jz, ez).2.2 = 0 from hne)] at hR
        refine loadN_row (vs := entC ⟨kt, [], 0, 0, 0⟩) (rowB hX3) rfl ?_
        refine And.intro rfl ?_
        refine storeN_all (vs := entC ⟨kt, [], 0, 0, 0⟩) hV3 rfl (entC_one _) ?_
        intro w90 hb90 m90 s90
        refine loadN_row (vs := entC ⟨kt, [], 0, 0, 0⟩) (rowB hb90) rfl ?_
        rw [hR]
        exact ⟨rfl, p.fresh p3 m90 (fun b e => by omega), Mod.trans k3 m90 fun b hb e => by omega⟩
      · exact hK2 () _ _ ⟨rfl, rfl, rfl, rfl, rfl, trivial⟩ ⟨rfl, h0⟩
    rintro _ wv frv ⟨hwv, hez⟩
    obtain rfl := hwv.symm
    subst hez
    rw [if_pos (show (z, jz, (0 : Int)).2.2 = 0 from rfl)] at hR
    dsimp only at hR
    refine seq_cut (σ := Option Addr × Nat) (fun s => [(0, .pointer (some ⟨g, 0, none⟩)), (2, .pointer (some ⟨V, 0, none⟩)), (6, .pointer (some ⟨X, 0, none⟩)), (9, .slice s.1 (getB bs jz z).1.length s.2), (8, zi (getB bs jz z).2.1)]) (fun s w' => Row w' s.1 (bvs (getB bs jz z).1) ∧ Re w' g ux uy A c bs (getB bs jz z).2.2 ∧ Mod (fun b => b = g) w3 w') ?_ ?_
    rotate_left
    · intro K2 hK2
      refine call_ (ReBytes_ok g ux uy A c bs jz z w3 p3 hm) ?_
      rintro e w4 ⟨v4, rfl, own4, p4, m4⟩
      obtain ⟨A4, c4, rfl, _, _, row4, _⟩ := own_slice own4
      refine ⟨_, rfl, ?_⟩
      exact hK2 (A4, c4) _ _ ⟨rfl, rfl, rfl, rfl, rfl, trivial⟩ ⟨row4, p4, m4⟩
    rintro ⟨A4, c4⟩ w4 fr4 ⟨row4, p4, m4⟩
    have hV4 := m4.blk hV3 (by omega)
    have hX4 := m4.blk hX3 (by omega)
    have k4 := k3.trans m4 fun _ _ e => e
    have s4 := m4.size
    refine seq_cut (σ := Unit) (fun s => [(0, .pointer (some ⟨g, 0, none⟩)), (2, .pointer (some ⟨V, 0, none⟩)), (6, .pointer (some ⟨X, 0, none⟩)), (8, zi (getB bs jz z).2.1)]) (fun _ w' => w'.heap[X]? = some (.cells (entC ⟨kt, (getB bs jz z).1, 0, 0, 0⟩).toArray 85 (0, 0)) ∧ Mod (fun b => b = X) w4 w') ?_ ?_
    rotate_left
    · intro K2 hK2
      refine Exists.intro (getB bs jz z).1 (And.intro rfl (And.intro row4 ?_))
      refine And.intro ⟨_, cellB hX4 rfl⟩ (And.intro (fzB hX4 _) (force_ ?_))
      refine stK hX4 (show (1 : Nat) < 5 by decide) ?_
      intro w5 hb5 m5 s5
      exact hK2 () _ _ ⟨rfl, rfl, rfl, rfl, trivial⟩ ⟨hb5, m5⟩
    rintro _ w5 fr5 ⟨hX5, m5⟩
    have hV5 := m5.blk hV4 (by omega)
    have k5 := Mod.trans k4 m5 (S := fun b => b = g) fun b hb e => by omega
    have p5 := p.fresh p4 m5 (fun b e => by omega)
    have s5 := m5.size
    refine loadN_row (vs := entC ⟨kt, (getB bs jz z).1, 0, 0, 0⟩) (rowB hX5) rfl ?_
    refine And.intro rfl ?_
    refine storeN_all (vs := entC ⟨kt, (getB bs jz z).1, 0, 0, 0⟩) hV5 rfl (entC_one _) ?_
    intro w90 hb90 m90 s90
    refine loadN_row (vs := entC ⟨kt, (getB bs jz z).1, 0, 0, 0⟩) (rowB hb90) rfl ?_
    rw [hR]
    exact ⟨rfl, p.fresh p5 m90 (fun b e => by omega), Mod.trans k5 m90 fun b hb e => by omega⟩
  replace h1 : ¬ kt = 1 := h1
  rw [if_neg h1] at hR
  refine if_p (fun h3 => ?_) (fun h3 => ?_)
  · replace h3 : kt = 3 := h3
    rw [if_pos h3, numR0] at hR
    refine call_ (ReGet_ok g ux uy A c bs j 4 true w2 p2) ?_
    rintro e w3 ⟨rfl, p3, m3⟩
    refine ⟨_, rfl, ?_⟩
    have hV3 := m3.blk hV2 (by omega)
    have hX3 := m3.blk hX2 (by omega)
    have k3 := k2.trans m3 fun _ _ e => e
    refine And.intro ⟨_, cellB hX3 rfl⟩ (And.intro (fzB hX3 _) (force_ ?_))
    refine stK hX3 (show (2 : Nat) < 5 by decide) ?_
    intro w5 hb5 m5 s5
    exact hK (⟨kt, [], (get true bs j 4).1, 0, 0⟩, (get true bs j 4).2.2, (get true bs j 4).2.1) _ _ ⟨rfl, rfl, rfl, rfl, trivial⟩ ⟨hR, p.fresh p3 m5 (fun b e => by omega), Mod.trans k3 m5 fun b hb e => by omega, m5.blk hV3 (by omega), hb5⟩
  replace h3 : ¬ kt = 3 := h3
  rw [if_neg h3] at hR
  refine if_p (fun h5 => ?_) (fun h5 => ?_)
  · replace h5 : kt = 5 := h5
    rw [if_pos h5, numR0] at hR
    refine call_ (ReGet_ok g ux uy A c bs j 8 true w2 p2) ?_
    rintro e w3 ⟨rfl, p3, m3⟩
    refine ⟨_, rfl, ?_⟩
    have hV3 := m3.blk hV2 (by omega)
    have hX3 := m3.blk hX2 (by omega)
    have k3 := k2.trans m3 fun _ _ e => e
    refine And.intro ⟨_, cellB hX3 rfl⟩ (And.intro (fzB hX3 _) (force_ ?_))
    refine stK hX3 (show (2 : Nat) < 5 by decide) ?_
    intro w5 hb5 m5 s5
    exact hK (⟨kt, [], (get true bs j 8).1, 0, 0⟩, (get true bs j 8).2.2, (get true bs j 8).2.1) _ _ ⟨rfl, rfl, rfl, rfl, trivial⟩ ⟨hR, p.fresh p3 m5 (fun b e => by omega), Mod.trans k3 m5 fun b hb e => by omega, m5.blk hV3 (by omega), hb5⟩
  replace h5 : ¬ kt = 5 := h5
  rw [if_neg h5] at hR
  refine if_p (fun h7 => ?_) (fun h7 => ?_)
  · replace h7 : kt = 7 := h7
    rw [if_neg (by omega : ¬ (kt = 9 ∨ kt = 10 ∨ kt = 12)), if_pos h7, numR0] at hR
    refine call_ (ReGet_ok g ux uy A c bs j 2 false w2 p2) ?_
    rintro e w3 ⟨rfl, p3, m3⟩
    refine ⟨_, rfl, ?_⟩
    have hV3 := m3.blk hV2 (by omega)
    have hX3 := m3.blk hX2 (by omega)
    have k3 := k2.trans m3 fun _ _ e => e
    refine And.intro ⟨_, cellB hX3 rfl⟩ (And.intro (fzB hX3 _) (force_ ?_))
    refine stK hX3 (show (3 : Nat) < 5 by decide) ?_
    intro w5 hb5 m5 s5
    exact hK (⟨kt, [], 0, (get false bs j 2).1, 0⟩, (get false bs j 2).2.2, (get false bs j 2).2.1) _ _ ⟨rfl, rfl, rfl, rfl, trivial⟩ ⟨hR, p.fresh p3 m5 (fun b e => by omega), Mod.trans k3 m5 fun b hb e => by omega, m5.blk hV3 (by omega), hb5⟩
  replace h7 : ¬ kt = 7 := h7
  refine seq_cut (σ := Bool) (fun s => [(0, .pointer (some ⟨g, 0, none⟩)), (2, .pointer (some ⟨V, 0, none⟩)), (5, zi 0), (6, .pointer (some ⟨X, 0, none⟩)), (69, .bool s)]) (fun s w' => w' = w2 ∧ s = decide (kt = 9 ∨ kt = 10 ∨ kt = 12)) ?_ ?_
  rotate_left
  · intro K2 hK2
    refine if_p (fun h9 => ?_) (fun h9 => ?_)
    · replace h9 : kt = 9 := h9
      rw [decide_eq_true h9]
      exact hK2 true _ _ ⟨rfl, rfl, rfl, rfl, rfl, trivial⟩ ⟨rfl, (decide_eq_true (.inl h9)).symm⟩
    · replace h9 : ¬ kt = 9 := h9
      refine if_p (fun h10 => ?_) (fun h10 => ?_)
      · replace h10 : kt = 10 := h10
        rw [decide_eq_true h10]
        exact hK2 true _ _ ⟨rfl, rfl, rfl, rfl, rfl, trivial⟩ ⟨rfl, (decide_eq_true (.inr (.inl h10))).symm⟩
      · replace h10 : ¬ kt = 10 := h10
        refine hK2 (decide (kt = 12)) _ _ ⟨rfl, rfl, rfl, rfl, rfl, trivial⟩ ⟨rfl, decide_eq_decide.2 ⟨fun e => .inr (.inr e), fun e => by omega⟩⟩
  rintro s3 wv frv ⟨hwv, hs3⟩
  obtain rfl := hwv.symm
  refine if_ (fun hb => ?_) (fun hb => ?_)
  · rw [hb, eq_comm, decide_eq_true_eq] at hs3
    rw [if_pos hs3] at hR
    refine seq_cut (σ := Int × Int) (fun s => [(0, .pointer (some ⟨g, 0, none⟩)), (2, .pointer (some ⟨V, 0, none⟩)), (5, zi s.2), (6, .pointer (some ⟨X, 0, none⟩))]) (fun s w' => s = ((get false bs j 2).1, (get false bs j 2).2.1) ∧ Re w' g ux uy A c bs (get false bs j 2).2.2 ∧ Mod (fun b => b = g) w w' ∧ w'.heap[V]? = some (.cells entZ 85 (0, 0)) ∧ w'.heap[X]? = some (.cells (entC ⟨kt, [], 0, s.1, 0⟩).toArray 85 (0, 0))) ?_ ?_
    rotate_left
    · intro K2 hK2
      refine call_ (ReGet_ok g ux uy A c bs j 2 false w2 p2) ?_
      rintro e w3 ⟨rfl, p3, m3⟩
      refine ⟨_, rfl, ?_⟩
      have hV3 := m3.blk hV2 (by omega)
      have hX3 := m3.blk hX2 (by omega)
      have k3 := k2.trans m3 fun _ _ e => e
      refine And.intro ⟨_, cellB hX3 rfl⟩ (And.intro (fzB hX3 _) (force_ ?_))
      refine stK hX3 (show (3 : Nat) < 5 by decide) ?_
      intro w5 hb5 m5 s5
      exact hK2 (_, _) _ _ ⟨rfl, rfl, rfl, rfl, trivial⟩ ⟨rfl, p.fresh p3 m5 (fun b e => by omega), Mod.trans k3 m5 fun b hb e => by omega, m5.blk hV3 (by omega), hb5⟩
    rintro ⟨z, ez⟩ w3 fr3 ⟨hs, p3, k3, hV3, hX3⟩
    dsimp only at hX3
    have hn3 := numR0 bs false 2 j
    generalize (get false bs j 2).2.2 = jz at p3 hn3
    have hz : numR bs false 2 (j, 0) = (z, jz, ez) := by rw [hn3]; obtain ⟨e1, e2⟩ := Prod.mk.inj hs; rw [e1, e2]; rfl
    rw [hz] at hR
    dsimp only at hR
    refine if_p (fun h0 => ?_) (fun h0 => ?_)
    · replace h0 : ez = 0 := h0
      rw [h0, numR0] at hR
      refine call_ (ReGet_ok g ux uy A c bs jz 2 false w3 p3) ?_
      rintro e w4 ⟨rfl, p4, m4⟩
      refine ⟨_, rfl, ?_⟩
      have hV4 := m4.blk hV3 (by omega)
      have hX4 := m4.blk hX3 (by omega)
      have k4 := k3.trans m4 fun _ _ e => e
      refine And.intro ⟨_, cellB hX4 rfl⟩ (And.intro (fzB hX4 _) (force_ ?_))
      refine stK hX4 (show (4 : Nat) < 5 by decide) ?_
      intro w5 hb5 m5 s5
      exact hK (⟨kt, [], 0, z, (get false bs jz 2).1⟩, (get false bs jz 2).2.2, (get false bs jz 2).2.1) _ _ ⟨rfl, rfl, rfl, rfl, trivial⟩ ⟨hR, p.fresh p4 m5 (fun b e => by omega), Mod.trans k4 m5 fun b hb e => by omega, m5.blk hV4 (by omega), hb5⟩
    · replace h0 : ¬ ez = 0 := h0
      rw [numRn _ _ _ _ h0] at hR
      exact hK (⟨kt, [], 0, z, 0⟩, jz, ez) _ _ ⟨rfl, rfl, rfl, rfl, trivial⟩ ⟨hR, p3, k3, hV3, hX3⟩
  · rw [hb, eq_comm, decide_eq_false_iff_not] at hs3
    rw [if_neg hs3, if_neg h7] at hR
    refine loadN_row (vs := entC ⟨kt, [], 0, 0, 0⟩) (rowB hX2) rfl ?_
    refine And.intro rfl ?_
    refine storeN_all (vs := entC ⟨kt, [], 0, 0, 0⟩) hV2 rfl (entC_one _) ?_
    intro w90 hb90 m90 s90
    refine loadN_row (vs := entC ⟨kt, [], 0, 0, 0⟩) (rowB hb90) rfl ?_
    rw [hR]
    exact ⟨rfl, p.fresh p2 m90 (fun b e => by omega), Mod.trans k2 m90 fun b hb e => by omega⟩
/-- What the document's reading of a pool answers. -/
def RReadOk (w : World) (g : Nat) (ux uy : Value) (A : Option Addr) (c : Nat) (bs : List UInt8) (i : Nat) (e : Ending) (w' : World) : Prop :=
  ∃ v l j er, readR bs i = (l, j, er) ∧ e = .returned (.tuple #[v, .int .i64 er]) ∧ w'.ownsRow w.heap.size 85 5 v l.length (l.map entC).flatten ∧ (∀ x ∈ l, EntOk x) ∧ Re w' g ux uy A c bs j ∧ Mod (fun b => b = g) w w'
theorem RRead_ok (g : Nat) (ux uy : Value) (A : Option Addr) (c : Nat) (bs : List UInt8) (i : Nat) (w : World) (p : Re w g ux uy A c bs i) (hm : bs.length ≤ 140737488355328) :
    Calls Tryz.prog 24 #[.pointer (some ⟨g, 0, none⟩)] w (RReadOk w g ux uy A c bs i) := by
  have hgl := p.lt
  refine enter ok Tryz.func24 rfl rfl rfl ?_
  have fail : ∀ (j : Nat) (er : Int) w', readR bs i = ([], j, er) → Re w' g ux uy A c bs j → Mod (fun b => b = g) w w' → RReadOk w g ux uy A c bs i (.returned (.tuple #[.slice none 0 0, .int .i64 er])) w' := fun j er w' hr p m =>
    ⟨_, [], j, er, hr, rfl, ⟨rfl, .inl ⟨rfl, rfl⟩⟩, (fun _ h => by cases h), p, m⟩
  refine seq_cut (σ := Unit) (fun _ => [(0, .pointer (some ⟨g, 0, none⟩))]) (fun _ w' => w' = w) ?_ ?_
  rotate_left
  · intro K hK
    exact hK () _ _ ⟨rfl, trivial⟩ rfl
  rintro _ wy fry hwy
  obtain rfl := hwy.symm
  refine seq_cut (σ := Int × Int) (fun s => [(0, .pointer (some ⟨g, 0, none⟩)), (4, zi s.1), (5, zi s.2)]) (fun s w' => s = ((get false bs i 2).1, (get false bs i 2).2.1) ∧ Re w' g ux uy A c bs (get false bs i 2).2.2 ∧ Mod (fun b => b = g) w w') ?_ ?_
  rotate_left
  · intro K hK
    refine call_ (ReGet_ok g ux uy A c bs i 2 false w p) ?_
    rintro e w1 ⟨rfl, p1, m1⟩
    refine ⟨_, rfl, ?_⟩
    exact hK (_, _) _ _ ⟨rfl, rfl, rfl, trivial⟩ ⟨rfl, p1, m1⟩
  rintro ⟨n, er⟩ w1 fr1 ⟨hs, p1, m1⟩
  have s1 := m1.size
  have hR : readR bs i = if (numR bs false 2 (i, 0)).2.2 ≠ 0 then ([], (numR bs false 2 (i, 0)).2)
    else if (numR bs false 2 (i, 0)).1 < 1 ∨ 1024 < (numR bs false 2 (i, 0)).1 then ([], (numR bs false 2 (i, 0)).2.1, 70)
    else readEnd (numR bs false 2 (i, 0)).1 (loopR bs (numR bs false 2 (i, 0)).1 (numR bs false 2 (i, 0)).1.toNat [e0] (numR bs false 2 (i, 0)).2) := rfl
  have hn := numR0 bs false 2 i
  generalize (get false bs i 2).2.2 = j at p1 hn
  have ht : numR bs false 2 (i, 0) = (n, j, er) := by rw [hn]; obtain ⟨e1, e2⟩ := Prod.mk.inj hs; rw [e1, e2]; rfl
  rw [ht] at hR
  dsimp only at hR
  refine seq_cut (σ := Unit) (fun _ => [(0, .pointer (some ⟨g, 0, none⟩)), (4, zi n)]) (fun _ w' => w' = w1 ∧ er = 0) ?_ ?_
  rotate_left
  · intro K hK
    refine if_n (fun hne => ?_) (fun h0 => ?_)
    · replace hne : ¬ er = 0 := hne
      rw [if_pos hne] at hR
      exact fail j er w1 hR p1 m1
    · exact hK () _ _ ⟨rfl, rfl, trivial⟩ ⟨rfl, h0⟩
  rintro _ wz frz ⟨hwz, her⟩
  obtain rfl := hwz.symm
  subst her
  rw [if_neg (fun h => h rfl)] at hR
  refine seq_cut (σ := Unit) (fun _ => [(0, .pointer (some ⟨g, 0, none⟩)), (4, zi n)]) (fun _ w' => w' = w1 ∧ 1 ≤ n ∧ n ≤ 1024) ?_ ?_
  rotate_left
  · intro K hK
    refine if_p (fun hlt => ?_) (fun hge => ?_)
    · rw [if_pos (.inl hlt)] at hR
      exact fail j 70 w1 hR p1 m1
    · refine if_p (fun hgt => ?_) (fun hle => ?_)
      · rw [if_pos (.inr hgt)] at hR
        exact fail j 70 w1 hR p1 m1
      · replace hge : ¬ n < 1 := hge
        replace hle : ¬ 1024 < n := hle
        exact hK () _ _ ⟨rfl, rfl, trivial⟩ ⟨rfl, by omega, by omega⟩
  rintro _ wv frv ⟨hwv, hn1, hn2⟩
  obtain rfl := hwv.symm
  rw [if_neg (by omega)] at hR
  refine seq_cut (σ := Option Addr × Nat) (fun s => [(0, .pointer (some ⟨g, 0, none⟩)), (4, zi n), (6, .slice s.1 1 s.2)]) (fun s w' => New w1 w' ∧ w'.ownsRow w.heap.size 85 5 (.slice s.1 1 s.2) 1 ([e0].map entC).flatten) ?_ ?_
  rotate_left
  · intro K hK
    have own2 := own_lit w1 (entC e0) 85 5 1 w.heap.size (by omega) rfl (by omega)
    exact hK (some ⟨w1.heap.size, 0, none⟩, 1) _ _ ⟨rfl, rfl, rfl, trivial⟩ ⟨New.alloc w1 (.cells (entC e0).toArray 85), own2⟩
  rintro ⟨A2, c2⟩ w2 fr2 ⟨n2, own2⟩
  dsimp only at own2
  refine seq_cut (σ := (Option Addr × Nat) × List Ent × Nat) (fun t => [(0, .pointer (some ⟨g, 0, none⟩)), (4, zi n), (6, .slice t.1.1 t.2.1.length t.1.2)]) (fun t w' => loopR bs n n.toNat [e0] (j, 0) = (t.2.1, t.2.2, 0) ∧ n ≤ (t.2.1.length : Int) ∧ t.2.1.length ≤ 1026 ∧ Re w' g ux uy A c bs t.2.2 ∧ Mod (fun b => b = g) w w' ∧ w'.ownsRow w.heap.size 85 5 (.slice t.1.1 t.2.1.length t.1.2) t.2.1.length (t.2.1.map entC).flatten ∧ ∀ x ∈ t.2.1, EntOk x) ?_ ?_
  rotate_left
  · intro K hK
    refine den_loop (σ := (Option Addr × Nat) × List Ent × Nat) (fun t => [(0, .pointer (some ⟨g, 0, none⟩)), (4, zi n), (6, .slice t.1.1 t.2.1.length t.1.2)])
      (fun m t wl => loopR bs n m t.2.1 (t.2.2, 0) = loopR bs n n.toNat [e0] (j, 0) ∧ n ≤ (t.2.1.length : Int) + m ∧ t.2.1.length ≤ 1026 ∧ Re wl g ux uy A c bs t.2.2 ∧ Mod (fun b => b = g) w wl ∧
        wl.ownsRow w.heap.size 85 5 (.slice t.1.1 t.2.1.length t.1.2) t.2.1.length (t.2.1.map entC).flatten ∧ ∀ x ∈ t.2.1, EntOk x) n.toNat ((A2, c2), [e0], j)
      ⟨rfl, rfl, rfl, trivial⟩ ⟨rfl, by simp only; omega, by simp, p1.new n2, m1.trans n2 (fun _ _ e => False.elim e), own2, fun x hx => by rw [List.mem_singleton.1 hx]; exact Pool.ok_e0⟩ ?_
    rintro m ⟨⟨Al, cl⟩, acc, i2⟩ wl frl ⟨hloop, hfuel, hacc, pl, kl, own, oks⟩
    dsimp only at hloop hfuel hacc pl own oks
    have hown := fun b (e : (Value.slice Al acc.length cl).ownBlock = some b) => own.lt b e
    have klz := kl.size
    refine seq_cut (σ := Unit) (fun _ => [(0, .pointer (some ⟨g, 0, none⟩)), (4, zi n), (6, .slice Al acc.length cl)]) (fun _ w' => w' = wl ∧ (acc.length : Int) < n) ?_ ?_
    rotate_left
    · intro K2 hK2
      refine if_p (fun hlt => ?_) (fun hge => ?_)
      · replace hlt : (acc.length : Int) < n := hlt
        exact hK2 () _ _ ⟨rfl, rfl, rfl, trivial⟩ ⟨rfl, hlt⟩
      · replace hge : ¬ (acc.length : Int) < n := hge
        rw [Pool.loopR_stop (fun h => hge h.1)] at hloop
        exact hK ((Al, cl), acc, i2) _ _ ⟨rfl, rfl, rfl, trivial⟩ ⟨hloop.symm, by dsimp only; omega, hacc, pl, kl, own, oks⟩
    rintro _ wx frx ⟨hwx, hlt⟩
    obtain rfl := hwx.symm
    cases m with
    | zero => omega
    | succ m =>
    rw [Pool.loopR_step ⟨hlt, rfl⟩] at hloop
    refine block_ ?_
    obtain ⟨q, hq⟩ : ∃ q, q = Pool.entR bs (i2, 0) := ⟨_, rfl⟩
    have hx := (Pool.entR_ok bs (i2, 0) pl.at_ (by omega)).1
    rw [← hq] at hloop hx
    obtain ⟨x, s4, e4⟩ := q
    dsimp only at hloop hx
    refine seq_cut (σ := Nat) (fun X => [(0, .pointer (some ⟨g, 0, none⟩)), (4, zi n), (6, .slice Al acc.length cl), (7, .pointer (some ⟨X, 0, none⟩)), (8, zi e4)]) (fun X w' => Re w' g ux uy A c bs s4 ∧ Mod (fun b => b = g) wl w' ∧ w'.heap[X]? = some (.cells (entC x).toArray 85 (0, 0)) ∧ wl.heap.size ≤ X) ?_ ?_
    rotate_left
    · intro K2 hK2
      have hce := refentry_ok g ux uy A c bs i2 wl pl hm
      rw [← hq] at hce
      refine call_ hce ?_
      rintro e w4 ⟨rfl, p4, m4⟩
      refine ⟨_, rfl, ?_⟩
      refine And.intro rfl ?_
      refine storeNew (vs := entC x) (arr := entZ) rfl (entC_one _) ?_
      intro w5 hb5 n5 s5
      exact hK2 w4.heap.size _ _ ⟨rfl, rfl, rfl, rfl, rfl, trivial⟩ ⟨p4.new n5, m4.trans n5 (fun _ _ e => False.elim e), hb5, m4.size⟩
    rintro X w5 fr5 ⟨p5, m5, hX5, hXl⟩
    have k5 : Mod (fun b => b = g) w w5 := kl.trans m5 fun _ _ e => e
    have own5 := own_mod m5 own (fun b hb e => by have := hown b hb; omega)
    have m5z := m5.size
    refine seq_cut (σ := Unit) (fun _ => [(0, .pointer (some ⟨g, 0, none⟩)), (4, zi n), (6, .slice Al acc.length cl), (7, .pointer (some ⟨X, 0, none⟩))]) (fun _ w' => w' = w5 ∧ e4 = 0) ?_ ?_
    rotate_left
    · intro K2 hK2
      refine if_n (fun hne => ?_) (fun h0 => ?_)
      · replace hne : ¬ e4 = 0 := hne
        rw [← hloop, Pool.loopR_stop (fun h => hne h.2)] at hR
        unfold readEnd at hR
        rw [if_pos (show (_, s4, e4).2.2 ≠ 0 from hne)] at hR
        exact fail s4 e4 w5 hR p5 k5
      · exact hK2 () _ _ ⟨rfl, rfl, rfl, rfl, trivial⟩ ⟨rfl, h0⟩
    rintro _ wu fru ⟨hwu, h40⟩
    obtain rfl := hwu.symm
    subst h40
    refine seq_cut (σ := Option Addr × Nat) (fun s => [(0, .pointer (some ⟨g, 0, none⟩)), (4, zi n), (6, .slice s.1 (acc.length + 1) s.2), (7, .pointer (some ⟨X, 0, none⟩))]) (fun s w' => w'.ownsRow w.heap.size 85 5 (.slice s.1 (acc.length + 1) s.2) (acc.length + 1) ((acc ++ [x]).map entC).flatten ∧ Mod (fun b => b = g) w w' ∧ Re w' g ux uy A c bs s4 ∧ w'.heap[X]? = some (.cells (entC x).toArray 85 (0, 0))) ?_ ?_
    rotate_left
    · intro K2 hK2
      refine loadN_row (vs := entC x) (rowB hX5) rfl ?_
      have n6 := New.alloc w5 (.cells (entC x).toArray 85)
      have row6 : Row (w5.alloc (.cells (entC x).toArray 85)) (some ⟨w5.heap.size, 0, none⟩) (entC x) := row_alloc w5 (entC x) _ _
      refine append_ ok rfl rfl rfl rfl (own_new n6 own5) rfl rfl row6 rfl (entC_one x) (by decide) rfl (by show (acc.length + 1) * 48 ≤ _; omega) (by omega) (Nat.le_trans (by omega) n6.size) ?_
      intro A7 c7 w7 own7 mod7
      rw [← Pool.ents_snoc] at own7
      have m57 := Mod.trans n6.mod mod7 (S := fun b => some b = (Value.slice Al acc.length cl).ownBlock) fun _ _ h => h
      exact hK2 (A7, c7) _ _ ⟨rfl, rfl, rfl, rfl, trivial⟩ ⟨own7, Mod.trans k5 m57 fun b hb e => by have := hown b e.symm; omega, p.fresh p5 m57 (fun b e => (hown b e.symm).1), m57.blk hX5 (fun e => by have := hown _ e.symm; omega)⟩
    rintro ⟨A7, c7⟩ w7 fr7 ⟨own7, k7, p7, hX7⟩
    dsimp only at own7
    have k7z := k7.size
    refine Exists.intro x.tag (And.intro (cellB hX7 rfl) ?_)
    refine if_p (fun h5 => ?_) (fun h5 => ?_)
    · replace h5 : x.tag = 5 := h5
      have n8 := New.alloc w7 (.cells (entC e0).toArray 85)
      have row8 : Row (w7.alloc (.cells (entC e0).toArray 85)) (some ⟨w7.heap.size, 0, none⟩) (entC e0) := row_alloc w7 (entC e0) _ _
      have own7' := fun b (e : (Value.slice A7 (acc.length + 1) c7).ownBlock = some b) => own7.lt b e
      refine append_ ok rfl rfl rfl rfl (own_new n8 own7) rfl rfl row8 rfl (entC_one e0) (by decide) rfl (by show (acc.length + 1 + 1) * 48 ≤ _; omega) (by omega) (Nat.le_trans (by omega) n8.size) ?_
      intro A9 c9 w9 own9 mod9
      have e10 : ((acc ++ [x]).map entC).flatten ++ entC e0 = ((acc ++ [x, e0]).map entC).flatten := by rw [← Pool.ents_snoc, List.append_assoc]; rfl
      rw [e10] at own9
      have m79 := Mod.trans n8.mod mod9 (S := fun b => some b = (Value.slice A7 (acc.length + 1) c7).ownBlock) fun _ _ h => h
      have et : tailOf x = [e0] := by unfold tailOf; rw [if_pos h5]
      rw [et] at hloop
      have hl : (acc ++ [x, e0]).length = acc.length + 1 + 1 := by simp
      refine ⟨m, ((A9, c9), acc ++ [x, e0], s4), by omega, ⟨rfl, rfl, by rw [hl]; rfl, trivial⟩, hloop, by dsimp only; omega, by dsimp only; omega, p.fresh p7 m79 (fun b e => (own7' b e.symm).1), Mod.trans k7 m79 (fun b hb e => by have := own7' b e.symm; omega), ?_, ?_⟩
      · dsimp only
        rw [hl]
        exact own9
      · intro y hy
        rcases List.mem_append.1 hy with hy | hy
        · exact oks y hy
        · rcases List.mem_cons.1 hy with hy | hy
          · rw [hy]; exact hx
          · rw [List.mem_singleton.1 hy]; exact Pool.ok_e0
    · replace h5 : ¬ x.tag = 5 := h5
      have et : tailOf x = [] := by unfold tailOf; rw [if_neg h5]
      rw [et] at hloop
      have hl : (acc ++ [x]).length = acc.length + 1 := by simp
      refine ⟨m, ((A7, c7), acc ++ [x], s4), by omega, ⟨rfl, rfl, by rw [hl]; rfl, trivial⟩, hloop, by dsimp only; omega, by dsimp only; omega, p7, k7, ?_, ?_⟩
      · dsimp only
        rw [hl]
        exact own7
      · intro y hy
        rcases List.mem_append.1 hy with hy | hy
        · exact oks y hy
        · rw [List.mem_singleton.1 hy]; exact hx
  rintro ⟨⟨A3, c3⟩, l, j3⟩ w3 fr3 ⟨hl, hln, hlu, p3, k3, own3, oks3⟩
  dsimp only at hl hln hlu p3 own3 oks3
  rw [hl] at hR
  unfold readEnd at hR
  rw [if_neg (show ¬ (l, j3, (0 : Int)).2.2 ≠ 0 from fun h => h rfl)] at hR
  dsimp only at hR
  refine seq_cut (σ := Unit) (fun _ => [(6, .slice A3 l.length c3)]) (fun _ w' => New w3 w' ∧ readR bs i = (l, j3, 0)) ?_ ?_
  rotate_left
  · intro K hK
    refine if_p (fun hgt => ?_) (fun hle => ?_)
    · replace hgt : n < (l.length : Int) := hgt
      rw [if_pos hgt] at hR
      exact fail j3 70 w3 hR p3 k3
    · replace hle : ¬ n < (l.length : Int) := hle
      rw [if_neg hle] at hR
      obtain ⟨_, _, he, _, _, row3, _⟩ := own_slice own3
      cases he
      have hpl : Pl w3 A3 l.length l := (Pool.pl_own own3 rfl oks3).2.2
      refine call_ (Pool.RCheck_ok A3 l.length c3 l w3 hpl) ?_
      rintro e w4 ⟨rfl, n4⟩
      refine ⟨_, rfl, ?_⟩
      rcases (Pool.chk_cases l).symm with ⟨hc, ho⟩ | ⟨hc, ho⟩
      · rw [hc]
        rw [if_pos ho] at hR
        exact hK () _ _ ⟨rfl, trivial⟩ ⟨n4, hR⟩
      · rw [hc]
        rw [if_neg (by rw [ho]; decide)] at hR
        exact fail j3 70 w4 hR (p3.new n4) (k3.trans n4 fun _ _ e => False.elim e)
  rintro _ w4 fr4 ⟨n4, hR4⟩
  exact ⟨_, l, j3, 0, hR4, rfl, own_new n4 own3, oks3, p3.new n4, k3.trans n4 fun _ _ e => False.elim e⟩

end Go.Proofs.YtdcaafldnbcdkaaGreatDoor.Class

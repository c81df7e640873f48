/- Writings against formats: no program in sight. -/
import Derived.Test.YteanhakkceancaaIReads
import Derived.Test.YteanhakkceancaaWPut
namespace Go.Proofs.Yteanhakkceancaa.Image
open Go Go.Proofs.Yteanhakkceancaa Go.Proofs.Yteanhakkceancaa.Eng Go.Proofs Go.Proofs.Yteanhakkceancaa.Word Go.Proofs.Yteanhakkceancaa.Fmt
set_option maxRecDepth 10000

abbrev WT := List UInt8 × Bool
/-- A writing that is what a format says, or bad. -/
def Wri {α : Type} (F : Fmt α) (c : Nat) (t : WT) (x : α) (t' : WT) : Prop :=
  t'.1.length ≤ t.1.length + c ∧ ((t'.2 = true ∧ (t.2 = true ∨ ¬ F.ok x)) ∨ (t'.2 = false ∧ t.2 = false ∧ F.ok x ∧ t'.1 = t.1 ++ F.enc x))
section
variable {α β : Type} {F : Fmt α} {G : Fmt β} {t t1 t2 : WT} {x : α} {y : β} {c d : Nat}
theorem Wri.seq (h : Wri F c t x t1) (k : Wri G d t1 y t2) : Wri (Fmt.seq F G) (c + d) t (x, y) t2 := by
  obtain ⟨h1, h2⟩ := h
  obtain ⟨k1, k2⟩ := k
  refine ⟨by omega, ?_⟩
  rcases k2 with ⟨a, b⟩ | ⟨a, b, e, f⟩
  · refine .inl ⟨a, ?_⟩
    rcases h2 with ⟨p, q⟩ | ⟨p, q, r, s⟩
    · exact q.imp id fun q o => q o.1
    · rcases b with b | b
      · rw [p] at b; cases b
      · exact .inr fun o => b o.2
  · rcases h2 with ⟨p, q⟩ | ⟨p, q, r, s⟩
    · rw [b] at p; cases p
    · refine .inr ⟨a, q, ⟨r, e⟩, ?_⟩
      rw [f, s, List.append_assoc]
      rfl
theorem Wri.via {to : α → β} {from_ : β → α} {h1 : ∀ x, F.ok x → from_ (to x) = x} (h : Wri F c t (from_ y) t1) (e : to (from_ y) = y) : Wri (Fmt.via F to from_ h1) c t y t1 :=
  ⟨h.1, h.2.imp (fun ⟨a, b⟩ => ⟨a, b.imp id fun b o => b o.2⟩) fun ⟨a, b, o, s⟩ => ⟨a, b, ⟨e, o⟩, s⟩⟩
theorem Wri.le (h : Wri F c t x t1) (hd : c ≤ d) : Wri F d t x t1 := ⟨Nat.le_trans h.1 (by omega), h.2⟩
/-- Numbers written, and whether they could not be. -/
def noteS (t : WT) (k : Nat) (sign : Bool) (zs : List Int) : WT := (allBs t.1 k sign zs, t.2 || !good k sign zs)
theorem Wri.num {k : Nat} {sign : Bool} (hk : wide (k : Int) = true) {n : Int} (hn : fits (k : Int) n sign = true → i64 n) : Wri (Fmt.num k sign hk) k t n (noteS t k sign [n]) := by
  have hg : good k sign [n] = fits (k : Int) n sign := by
    unfold good
    rw [hk]
    simp
  unfold noteS allBs
  rw [hg]
  cases hf : fits (k : Int) n sign with
  | false =>
    refine ⟨by simp, .inl ⟨by simp, .inr fun o => ?_⟩⟩
    have h1 := o.1
    rw [hf] at h1
    cases h1
  | true =>
    refine ⟨?_, ?_⟩
    · simp [enc_length]
    · cases ht : t.2 with
      | true => exact .inl ⟨by simp, .inl rfl⟩
      | false => exact .inr ⟨by simp, rfl, ⟨hf, hn hf⟩, by simp [Fmt.num]⟩
/-- More numbers, all with a sign and eight bytes: they all go. -/
theorem noteS_snoc (t : WT) (zs : List Int) (n : Int) : noteS t 8 true (zs ++ [n]) = noteS (noteS t 8 true zs) 8 true [n] := by
  have hw : wide ((8 : Nat) : Int) = true := by decide
  have hf : ∀ z : Int, fits ((8 : Nat) : Int) z true = true := fun z => by unfold fits; rfl
  have hg : ∀ l : List Int, good (8 : Nat) true l = true := fun l => by
    unfold good
    rw [hw]
    have : (l.any fun n => !fits ((8 : Nat) : Int) n true) = false := by
      rw [List.any_eq_false]
      intro z _
      rw [hf z]
      decide
    rw [this]
    rfl
  unfold noteS allBs
  simp only [hg, if_true]
  simp
/-! ### Lists -/
def csum {α : Type} (f : α → Nat) (l : List α) : Nat := (l.map f).sum
theorem csum_snoc (f : α → Nat) (l : List α) (x : α) : csum f (l ++ [x]) = csum f l + f x := by simp [csum]
theorem csum_le (f : α → Nat) : ∀ (l : List α) (i : Nat), csum f (l.take i) ≤ csum f l
  | [], i => by simp
  | x :: l, 0 => by simp [csum]
  | x :: l, i + 1 => by
    have := csum_le f l i
    simp only [csum, List.take_succ_cons, List.map_cons, List.sum_cons] at this ⊢
    omega
def WLst (F : Fmt α) (f : α → Nat) (t : WT) (xs : List α) (i : Nat) (t' : WT) : Prop :=
  t'.1.length ≤ t.1.length + 4 + csum f (xs.take i) ∧ ((t'.2 = true ∧ (t.2 = true ∨ ¬ (list 4 w4 F).ok xs)) ∨
    (t'.2 = false ∧ t.2 = false ∧ (fits 4 (xs.length : Int) false = true ∧ i64 xs.length) ∧ (∀ x ∈ xs.take i, F.ok x) ∧ t'.1 = t.1 ++ (enc 4 (xs.length : Int) ++ (xs.take i).flatMap F.enc)))
theorem WLst.start {f : α → Nat} {xs : List α} (h : Wri (Fmt.num 4 false w4) 4 t (xs.length : Int) t1) : WLst F f t xs 0 t1 := by
  refine ⟨by simpa [csum] using h.1, h.2.imp (fun ⟨a, b⟩ => ⟨a, b.imp id fun b o => b o.1⟩) fun ⟨a, b, o, s⟩ => ⟨a, b, o, by simp, ?_⟩⟩
  rw [s]
  simp [Fmt.num]
theorem WLst.step {f : α → Nat} {xs : List α} {i : Nat} (hi : i < xs.length) (h : WLst F f t xs i t1) (k : Wri F (f xs[i]) t1 xs[i] t2) : WLst F f t xs (i + 1) t2 := by
  have et : xs.take (i + 1) = xs.take i ++ [xs[i]] := List.take_succ_eq_append_getElem hi
  obtain ⟨h1, h2⟩ := h
  obtain ⟨k1, k2⟩ := k
  unfold WLst
  rw [et, csum_snoc]
  refine ⟨by omega, ?_⟩
  rcases k2 with ⟨a, b⟩ | ⟨a, b, e, s⟩
  · refine .inl ⟨a, ?_⟩
    rcases h2 with ⟨p, q⟩ | ⟨p, q, _⟩
    · exact q
    · rcases b with b | b
      · rw [p] at b; cases b
      · exact .inr fun o => b (o.2 _ (List.getElem_mem hi))
  · rcases h2 with ⟨p, q⟩ | ⟨p, q, r, u, v⟩
    · rw [b] at p; cases p
    · refine .inr ⟨a, q, r, fun y hy => ?_, ?_⟩
      · rcases List.mem_append.1 hy with hy | hy
        · exact u y hy
        · rw [List.mem_singleton.1 hy]; exact e
      · rw [s, v, List.flatMap_append]
        simp [List.append_assoc]
theorem WLst.done {f : α → Nat} {xs : List α} (h : WLst F f t xs xs.length t1) : Wri (list 4 w4 F) (4 + csum f xs) t xs t1 := by
  unfold WLst at h
  rw [List.take_length] at h
  exact ⟨by omega, h.2.imp id fun ⟨a, b, c, d, e⟩ => ⟨a, b, ⟨c, d⟩, e⟩⟩
end
/-! ### What machines cost, and whether their numbers are numbers -/
def cVal (_ : Val) : Nat := 9
def cObj (o : Obj) : Nat := 261 + csum cVal o.words
def cCall (c : Call) : Nat := 40 + csum cVal c.locals + csum cVal c.stack
def cThr (t : Thr) : Nat := 28 + csum cCall t.calls
def cMon (_ : Mon) : Nat := 24
def cInt (_ : Int) : Nat := 8
def cMach (m : Mach) : Nat := 56 + csum cInt m.ins + csum cInt m.outs + csum cVal m.statics + csum cObj m.objs + csum cThr m.thrs + csum cMon m.mons
def fVal (x : Val) : Prop := i64 x.n
def fObj (o : Obj) : Prop := ∀ x ∈ o.words, fVal x
def fCall (c : Call) : Prop := i64 c.cl ∧ i64 c.me ∧ i64 c.at_ ∧ i64 c.lock ∧ (∀ x ∈ c.locals, fVal x) ∧ ∀ x ∈ c.stack, fVal x
def fThr (t : Thr) : Prop := i64 t.state ∧ i64 t.on ∧ i64 t.count ∧ ∀ c ∈ t.calls, fCall c
def fMon (m : Mon) : Prop := i64 m.ob ∧ i64 m.owner ∧ i64 m.count
def fMach (m : Mach) : Prop := i64 m.status ∧ i64 m.read ∧ i64 m.gone ∧ i64 m.steps ∧ (∀ n ∈ m.ins, i64 n) ∧ (∀ n ∈ m.outs, i64 n) ∧ (∀ x ∈ m.statics, fVal x) ∧ (∀ o ∈ m.objs, fObj o) ∧ (∀ t ∈ m.thrs, fThr t) ∧ ∀ q ∈ m.mons, fMon q
theorem fits_small {k : Nat} (hk : k = 1 ∨ k = 2 ∨ k = 4) {n : Int} (h : fits (k : Int) n false = true) : i64 n := by
  unfold fits at h
  unfold i64
  rcases hk with rfl | rfl | rfl <;> simp at h <;> omega
theorem fits4 {n : Nat} (h : n ≤ 4294967295) : fits 4 (n : Int) false = true := by
  unfold fits
  simp
  omega
theorem wri_val {t t1 t2 : WT} {x : Val} (h : Wri (num 1 false w1) 1 t x.kind t1) (k : Wri n8 8 t1 x.n t2) : Wri valF (cVal x) t x t2 := Wri.via (h.seq k) rfl
theorem wri_mon {t t1 t2 t3 : WT} {x : Mon} (h1 : Wri n8 8 t x.ob t1) (h2 : Wri n8 8 t1 x.owner t2) (h3 : Wri n8 8 t2 x.count t3) : Wri monF (cMon x) t x t3 := Wri.via (h1.seq (h2.seq h3)) rfl
theorem wri_call {t t1 t2 t3 t4 t5 t6 : WT} {x : Call} (h1 : Wri n8 8 t x.cl t1) (h2 : Wri n8 8 t1 x.me t2) (h3 : Wri n8 8 t2 x.at_ t3) (h4 : Wri n8 8 t3 x.lock t4) (h5 : Wri valsF (4 + csum cVal x.locals) t4 x.locals t5) (h6 : Wri valsF (4 + csum cVal x.stack) t5 x.stack t6) : Wri callF (cCall x) t x t6 :=
  Wri.le (show Wri callF (8 + (8 + (8 + (8 + ((4 + csum cVal x.locals) + (4 + csum cVal x.stack)))))) t x t6 from Wri.via (h1.seq (h2.seq (h3.seq (h4.seq (h5.seq h6))))) rfl) (by unfold cCall; omega)
theorem wri_thr {t t1 t2 t3 t4 : WT} {x : Thr} (h1 : Wri n8 8 t x.state t1) (h2 : Wri n8 8 t1 x.on t2) (h3 : Wri n8 8 t2 x.count t3) (h4 : Wri (list 4 w4 callF) (4 + csum cCall x.calls) t3 x.calls t4) : Wri thrF (cThr x) t x t4 :=
  Wri.le (show Wri thrF (8 + (8 + (8 + (4 + csum cCall x.calls)))) t x t4 from Wri.via (h1.seq (h2.seq (h3.seq h4))) rfl) (by unfold cThr; omega)
theorem wri_obj {t t1 t2 : WT} {x : Obj} (h1 : Wri tyF 257 t x.ty t1) (h2 : Wri valsF (4 + csum cVal x.words) t1 x.words t2) : Wri objF (cObj x) t x t2 := Wri.le (show Wri objF (257 + (4 + csum cVal x.words)) t x t2 from Wri.via (h1.seq h2) rfl) (by unfold cObj; omega)
theorem wri_obj_bad {t : WT} {x : Obj} (h : 255 < x.ty.length) : Wri objF (cObj x) t x (t.1, true) := by
  refine ⟨by simp, .inl ⟨rfl, .inr fun o => ?_⟩⟩
  have := o.2.1.2
  simp only [decide_eq_true_eq] at this
  have : x.ty.length ≤ 255 := this
  omega
theorem wri_ty {t : WT} {s : List UInt8} (h : s.length ≤ 255) : Wri tyF 257 t s ((noteS t 2 false [(s.length : Int)]).1 ++ s, (noteS t 2 false [(s.length : Int)]).2) := by
  have hw : wide ((2 : Nat) : Int) = true := by decide
  have hf : fits ((2 : Nat) : Int) (s.length : Int) false = true := by
    unfold fits
    simp
    omega
  have h1 := Wri.num (t := t) hw (n := (s.length : Int)) (sign := false) (fun h => fits_small (.inr (.inl rfl)) h)
  obtain ⟨a, b⟩ := h1
  refine ⟨?_, ?_⟩
  · dsimp only
    rw [List.length_append]
    omega
  · rcases b with ⟨p, q⟩ | ⟨p, q, r, u⟩
    · refine .inl ⟨p, q.imp id fun q o => q ⟨hf, fits_small (.inr (.inl rfl)) hf⟩⟩
    · refine .inr ⟨p, q, ⟨r, by simpa using h⟩, ?_⟩
      dsimp only
      rw [u, List.append_assoc]
      rfl
theorem wri_mach {t0 t1 t2 t3 t4 t5 t6 t7 t8 t9 t10 : WT} {m : Mach} (h1 : Wri n8 8 t0 m.status t1) (h2 : Wri n8 8 t1 m.read t2) (h3 : Wri n8 8 t2 m.gone t3) (h4 : Wri n8 8 t3 m.steps t4)
    (h5 : Wri intsF (4 + csum cInt m.ins) t4 m.ins t5) (h6 : Wri intsF (4 + csum cInt m.outs) t5 m.outs t6) (h7 : Wri valsF (4 + csum cVal m.statics) t6 m.statics t7) (h8 : Wri (list 4 w4 objF) (4 + csum cObj m.objs) t7 m.objs t8) (h9 : Wri (list 4 w4 thrF) (4 + csum cThr m.thrs) t8 m.thrs t9) (h10 : Wri (list 4 w4 monF) (4 + csum cMon m.mons) t9 m.mons t10) : Wri machF (cMach m) t0 m t10 :=
  Wri.le (show Wri machF (8 + (8 + (8 + (8 + ((4 + csum cInt m.ins) + ((4 + csum cInt m.outs) + ((4 + csum cVal m.statics) + ((4 + csum cObj m.objs) + ((4 + csum cThr m.thrs) + (4 + csum cMon m.mons)))))))))) t0 m t10 from Wri.via (h1.seq (h2.seq (h3.seq (h4.seq (h5.seq (h6.seq (h7.seq (h8.seq (h9.seq h10))))))))) rfl) (by unfold cMach; omega)
theorem wri_bytes {m : Mach} {t : WT} (h : Wri machF (cMach m) ([], false) m t) : (t.2 = true → errOf m = 2 ∧ bytesOf m = []) ∧ (t.2 = false → most < t.1.length → errOf m = 3 ∧ bytesOf m = []) ∧ (t.2 = false → t.1.length ≤ most → errOf m = 0 ∧ bytesOf m = t.1) := by
  obtain ⟨_, h⟩ := h
  unfold errOf bytesOf
  rcases h with ⟨a, b⟩ | ⟨a, _, o, e⟩
  · have hb : ¬ machF.ok m := by
      rcases b with b | b
      · cases b
      · exact b
    refine ⟨fun _ => ⟨if_neg hb, if_neg fun h => hb h.1⟩, fun h => ?_, fun h => ?_⟩
    · rw [h] at a; cases a
    · rw [h] at a; cases a
  · rw [List.nil_append] at e
    rw [← e, if_pos o]
    refine ⟨fun h => ?_, fun _ h => ⟨if_neg (by omega), if_neg (by omega)⟩, fun _ h => ⟨if_pos h, if_pos ⟨o, h⟩⟩⟩
    rw [h] at a; cases a
end Go.Proofs.Yteanhakkceancaa.Image

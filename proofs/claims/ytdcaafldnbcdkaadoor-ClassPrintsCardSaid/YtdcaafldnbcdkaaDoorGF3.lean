/- The texts PWrite, KRep, KWrite1, KWrite2, KWrite3, KWrite4, KWrite5, KPrint, KWorks, KLight behind one another, merged by mrg.py; each says in its own place what it proves. -/
import Derived.Test.YtdcaafldnbcdkaaDoorGF2

/-! ### PWrite -/
namespace Go.Proofs.YtdcaafldnbcdkaaDoor.Pool
open Go Go.Proofs.YtdcaafldnbcdkaaDoor Go.Proofs.YtdcaafldnbcdkaaDoor.Eng Go.Proofs Go.Proofs.YtdcaafldnbcdkaaDoor.Word Go.Proofs.YtdcaafldnbcdkaaDoor.Fmt
set_option maxRecDepth 10000

/-- What is written of an entry. -/
inductive Parts (x : Ent) : Prop
  | utf (t : x.tag = 1) (h : Word.fits (2 : Nat) (x.text.length : Int) false = true) (e : entF.enc x = enc 1 x.tag ++ (enc 2 (x.text.length : Int) ++ x.text))
  | int (t : x.tag = 3) (h : Word.fits (4 : Nat) x.n true = true) (e : entF.enc x = enc 1 x.tag ++ enc 4 x.n)
  | long (t : x.tag = 5) (h : Word.fits (8 : Nat) x.n true = true) (e : entF.enc x = enc 1 x.tag ++ enc 8 x.n)
  | cls (t : x.tag = 7) (h : Word.fits (2 : Nat) x.a false = true) (e : entF.enc x = enc 1 x.tag ++ enc 2 x.a)
  | two (t : ¬ x.tag = 1 ∧ ¬ x.tag = 3 ∧ ¬ x.tag = 5 ∧ ¬ x.tag = 7) (h : Word.fits (2 : Nat) x.a false = true) (k : Word.fits (2 : Nat) x.b false = true) (e : entF.enc x = enc 1 x.tag ++ (enc 2 x.a ++ enc 2 x.b))
theorem ent_parts {x : Ent} (h : entF.ok x) : Word.fits (1 : Nat) x.tag false = true ∧ Parts x := by
  obtain ⟨_, ⟨h1, _⟩, h2⟩ := h
  refine ⟨h1, ?_⟩
  simp only at h2
  have he : entF.enc x = enc 1 x.tag ++ (bodyF x.tag).enc x := rfl
  unfold bodyF at h2 he
  split at h2
  · rename_i ht
    rw [if_pos ht] at he
    exact .utf ht h2.2.1 he
  rename_i n1
  rw [if_neg n1] at he
  split at h2
  · rename_i ht
    rw [if_pos ht] at he
    exact .int ht h2.2.1 he
  rename_i n3
  rw [if_neg n3] at he
  split at h2
  · rename_i ht
    rw [if_pos ht] at he
    exact .long ht h2.2.1 he
  rename_i n5
  rw [if_neg n5] at he
  split at h2
  · rename_i ht
    rw [if_pos ht] at he
    exact .two ⟨n1, n3, n5, by omega⟩ h2.2.1.1 h2.2.2.1 he
  rename_i n9
  rw [if_neg n9] at he
  split at h2
  · rename_i ht
    rw [if_pos ht] at he
    exact .cls ht h2.2.1 he
  · exact h2.elim
theorem fits2_lt {n : Nat} (h : Word.fits (2 : Nat) (n : Int) false = true) : n < 65536 := by
  simp [Word.fits] at h
  omega
theorem ent_len {x : Ent} (h : entF.ok x) : (entF.enc x).length ≤ 65600 := by
  obtain ⟨_, p⟩ := ent_parts h
  cases p with
  | utf t h e => rw [e]; have := fits2_lt h; simp only [List.length_append, enc_length]; omega
  | int t h e => rw [e]; simp only [List.length_append, enc_length]; omega
  | long t h e => rw [e]; simp only [List.length_append, enc_length]; omega
  | cls t h e => rw [e]; simp only [List.length_append, enc_length]; omega
  | two t h k e => rw [e]; simp only [List.length_append, enc_length]; omega
theorem ents_take {l : List Ent} {i : Nat} (hi : i < l.length) : ents (l.take (i + 1)) = ents (l.take i) ++ if (at_ l i).tag = 0 then [] else entF.enc (at_ l i) := by
  rw [List.take_succ_eq_append_getElem hi, ents_app, at_lt hi]
  congr 1
  unfold ents
  by_cases h : l[i].tag = 0
  · rw [List.filter_cons_of_neg (by unfold isIt; rw [decide_eq_true h]; decide), if_pos h]
    rfl
  · rw [List.filter_cons_of_pos (by unfold isIt; rw [decide_eq_false h]; rfl), if_neg h]
    simp
theorem right_ent {l : List Ent} (h : OkPool l) (hn : ∀ x ∈ l, EntOk x) {i : Nat} (hi : i < l.length) (ht : (at_ l i).tag ≠ 0) : entF.ok (at_ l i) := by
  obtain ⟨_, hf⟩ := tag_right h.1 hi ht
  refine ok_entF ?_ ⟨l, i, fits_demand hf, h.2⟩ (by rw [at_lt hi]; exact (hn _ (List.getElem_mem hi)).n)
  unfold Pool.fits at hf
  rw [Bool.and_eq_true] at hf
  exact of_decide_eq_true hf.1
theorem ents_take_len {l : List Ent} (h : OkPool l) (hn : ∀ x ∈ l, EntOk x) : ∀ i, i ≤ l.length → (ents (l.take i)).length ≤ 65600 * i
  | 0, _ => by simp [ents]
  | i + 1, hi => by
    rw [ents_take (by omega), List.length_append]
    have h1 := ents_take_len h hn i (by omega)
    have h2 : (if (at_ l i).tag = 0 then [] else entF.enc (at_ l i)).length ≤ 65600 := by
      split
      · simp
      · rename_i ht
        exact ent_len (right_ent h hn (by omega) ht)
    omega
theorem ents_all {l : List Ent} (h : Okp l) : ents (l.drop 1) = ents l := by
  have h0 := h.pos
  have h1 := h.head
  cases l with
  | nil => simp at h0
  | cons x r =>
    have : x = e0 := h1
    subst this
    show ents r = ents (e0 :: r)
    unfold ents
    rw [List.filter_cons_of_neg (by decide)]
theorem Pl.mod {S : Nat → Prop} {w w' : World} {A : Option Addr} {n : Nat} {l : List Ent} (h : Pl w A n l) (k : Mod S w w') (ha : ∀ a, A = some a → l ≠ [] → ¬ S a.block) : Pl w' A n l := by
  refine ⟨h.len, ?_, h.oks, h.top⟩
  intro i cs hi
  obtain ⟨h1, a, h2, h3⟩ := h.row i cs hi
  refine ⟨h1, a, h2, fun j u hu => ?_⟩
  have hne : l ≠ [] := by
    rintro rfl
    simp at hi
  exact k.cell (h3 j u hu) (by rw [add_block, add_block]; exact ha a h2 hne)
theorem Write_ok (base g : Nat) (v : Value) (bs : List UInt8) (A : Option Addr) (n q : Nat) (l : List Ent) (w : World) (h : Wr w base g v bs) (hl : Pl w A n l) (hd : ∀ a, A = some a → l ≠ [] → ¬ WS g v a.block) (hm : bs.length ≤ 500000000) (hb : base ≤ w.heap.size) :
    Calls Tryd.prog 37 #[.pointer (some ⟨g, 0, none⟩), .slice A n q] w fun e w' => e = .returned (.int .i64 (chk l)) ∧ ∃ v', Wk w base g v w' v' (if okB l = true then bs ++ poolF.enc l else bs) := by
  refine enter ok Tryd.func37 rfl rfl rfl ?_
  refine call_ (Check_ok A n q l w hl) ?_
  rintro e w0 ⟨rfl, n0⟩
  refine ⟨_, rfl, ?_⟩
  have hr0 := (Wk.refl h).new n0
  rcases chk_cases l with ⟨hc, ho⟩ | ⟨hc, ho⟩
  · rw [hc, ho]
    exact ⟨rfl, v, hr0⟩
  rw [hc, ho, if_pos rfl]
  have hO := (okB_iff l).1 ho
  have hlen := hl.len
  have htop := hl.top
  have h1024 := hO.2
  refine call_ (WU1 base g v bs 2 n w0 hr0.wr Pool.w2 (fits2 (by omega) (by omega)).1 (by omega) (Nat.le_trans hb n0.size)) ?_
  rintro e w1 ⟨rfl, v1, k1⟩
  refine ⟨_, rfl, ?_⟩
  have hr1 := hr0.then k1
  clear k1
  refine den_loop (σ := Nat) (fun i => [(0, .pointer (some ⟨g, 0, none⟩)), (6, .int .i64 0), (19, .slice A n q), (20, .int .i64 n), (21, .int .i64 i)])
    (fun m i wl => i ≤ n ∧ m = n - i ∧ ∃ v', Wk w base g v wl v' (bs ++ (enc 2 (n : Int) ++ ents (l.take i)))) n 0 ⟨rfl, rfl, rfl, rfl, rfl, trivial⟩ ⟨Nat.zero_le _, rfl, v1, by simpa [ents] using hr1⟩ ?_
  rintro m i wl fr0 ⟨hi, rfl, vl, kl⟩
  refine if_p (fun hlt => ?_) (fun hge => ?_)
  · replace hlt : (i : Int) < n := hlt
    have hil : i < l.length := by omega
    have hplx := hl.mod kl.mod hd
    obtain ⟨a, rfl, hxo, hxc⟩ := hplx.at_ (i := i) (by omega)
    have hbl := ents_take_len hO hl.oks i (by omega)
    have hbb : (bs ++ (enc 2 (n : Int) ++ ents (l.take i))).length ≤ 600000000 := by
      simp only [List.length_append, enc_length]
      omega
    have hbase : ∀ {w' v' bs'}, Wk w base g v w' v' bs' → base ≤ w'.heap.size := fun k => Nat.le_trans hb k.mod.size
    refine And.intro (by omega) (And.intro (by omega) ?_)
    refine loadN_row (vs := entC (at_ l i)) (fun j u hu => by rw [Int.toNat_natCast]; exact hxc j u hu) rfl ?_
    refine And.intro rfl ?_
    refine storeNew (vs := entC (at_ l i)) (arr := entZ) rfl (entC_one _) ?_
    intro w5 hb5 n5 s5
    have k5 := kl.new n5
    have goal : ∀ w' v', Wk w base g v w' v' (bs ++ (enc 2 (n : Int) ++ ents (l.take i)) ++ if (at_ l i).tag = 0 then [] else entF.enc (at_ l i)) → (i + 1 ≤ n ∧ n - (i + 1) = n - (i + 1) ∧ ∃ v', Wk w base g v w' v' (bs ++ (enc 2 (n : Int) ++ ents (l.take (i + 1))))) := fun w' v' k => ⟨by omega, rfl, v', by
      rw [ents_take hil]
      simpa using k⟩
    have inc : Value.int .i64 (IntKind.i64.wrap ((i : Int) + 1)) = .int .i64 ((i + 1 : Nat) : Int) := by
      rw [wrap_i64 (by omega) (by omega)]
      rfl
    refine Exists.intro (at_ l i).tag (And.intro (cellB hb5 rfl) ?_)
    refine if_p (fun h0 => ?_) (fun h0 => ?_)
    · replace h0 : (at_ l i).tag = 0 := h0
      refine ⟨n - (i + 1), i + 1, by omega, ⟨rfl, rfl, rfl, rfl, inc, trivial⟩, goal w5 vl ?_⟩
      rw [if_pos h0, List.append_nil]
      exact k5
    replace h0 : ¬ (at_ l i).tag = 0 := h0
    rw [if_neg h0] at goal
    have hok := right_ent hO hl.oks hil h0
    obtain ⟨hf1, hparts⟩ := ent_parts hok
    refine Exists.intro (at_ l i).tag (And.intro (cellB hb5 rfl) ?_)
    refine call_ (WU1 base g vl _ 1 (at_ l i).tag w5 k5.wr Pool.w1 hf1 (by omega) (hbase k5)) ?_
    rintro e w8 ⟨rfl, v8, j8⟩
    refine ⟨_, rfl, ?_⟩
    have k8 := k5.then j8
    have hne5 : ¬ WS g vl wl.heap.size := by
      rintro (e | e)
      · have := kl.wr.lt; omega
      · have := (kl.wr.vlt e.symm).2; omega
    have hb8 := j8.mod.blk hb5 hne5
    have hne8 : ¬ WS g v8 wl.heap.size := by
      rintro (e | e)
      · have := kl.wr.lt; omega
      · rcases j8.st _ e.symm with h' | h'
        · exact hne5 (.inr h'.symm)
        · have := n5.size; omega
    refine Exists.intro (at_ l i).tag (And.intro (cellB hb8 rfl) ?_)
    have close : ∀ w' v' ys, Wk w base g v w' v' ((bs ++ (enc 2 (n : Int) ++ ents (l.take i))) ++ enc 1 (at_ l i).tag ++ ys) → entF.enc (at_ l i) = enc 1 (at_ l i).tag ++ ys → Wk w base g v w' v' (bs ++ (enc 2 (n : Int) ++ ents (l.take i)) ++ entF.enc (at_ l i)) := fun w' v' ys k e => by
      rw [e, ← List.append_assoc]
      exact k
    have hl1 : ((bs ++ (enc 2 (n : Int) ++ ents (l.take i))) ++ enc 1 (at_ l i).tag).length ≤ 600000001 := by rw [List.length_append, enc_length]; omega
    refine if_p (fun h1 => ?_) (fun h1 => ?_)
    · replace h1 : (at_ l i).tag = 1 := h1
      cases hparts with
      | utf _ hf he =>
        have htl := fits2_lt hf
        refine Exists.intro (⟨(at_ l i).text.toArray⟩ : ByteArray) (And.intro (cellB hb8 rfl) ?_)
        have hsz : ((ByteArray.mk (at_ l i).text.toArray).size : Int) = (((at_ l i).text.length : Nat) : Int) := by rw [size_str]
        refine call_ (WU1 base g v8 _ 2 ((ByteArray.mk (at_ l i).text.toArray).size : Int) w8 k8.wr Pool.w2 (by rw [hsz]; exact hf) (by omega) (hbase k8)) ?_
        rintro e w11 ⟨rfl, v11, j11⟩
        rw [hsz] at j11
        refine ⟨_, rfl, ?_⟩
        have k11 := k8.then j11
        have hb11 := j11.mod.blk hb8 hne8
        refine Exists.intro (⟨(at_ l i).text.toArray⟩ : ByteArray) (And.intro (cellB hb11 rfl) ?_)
        refine str_bytes_ ok rfl rfl rfl rfl rfl rfl (l := (at_ l i).text) rfl (by omega) ?_
        intro c13 w13 hc13 hcm13 row13 n13 s13
        have k13 := k11.new n13
        refine call_ (WB1 base g v11 _ (some ⟨w11.heap.size, 0, none⟩) (at_ l i).text.length c13 (at_ l i).text w13 k13.wr row13 rfl (by simp only [List.length_append, enc_length] at hl1 ⊢; omega) (hbase k13)) ?_
        rintro e w14 ⟨rfl, v14, j14⟩
        refine ⟨_, rfl, ?_⟩
        have k14 := k13.then j14
        refine ⟨n - (i + 1), i + 1, by omega, ⟨rfl, rfl, rfl, rfl, inc, trivial⟩, goal w14 v14 (close _ _ _ ?_ he)⟩
        simpa using k14
      | int t => omega
      | long t => omega
      | cls t => omega
      | two t => exact absurd h1 t.1
    replace h1 : ¬ (at_ l i).tag = 1 := h1
    refine if_p (fun h3 => ?_) (fun h3 => ?_)
    · replace h3 : (at_ l i).tag = 3 := h3
      cases hparts with
      | int _ hf he =>
        refine Exists.intro (at_ l i).n (And.intro (cellB hb8 rfl) ?_)
        refine call_ (WS1 base g v8 _ 4 (at_ l i).n w8 k8.wr Pool.w4 hf (by omega) (hbase k8)) ?_
        rintro e w11 ⟨rfl, v11, j11⟩
        refine ⟨_, rfl, ?_⟩
        exact ⟨n - (i + 1), i + 1, by omega, ⟨rfl, rfl, rfl, rfl, inc, trivial⟩, goal w11 v11 (close _ _ _ (k8.then j11) he)⟩
      | utf t => omega
      | long t => omega
      | cls t => omega
      | two t => exact absurd h3 t.2.1
    replace h3 : ¬ (at_ l i).tag = 3 := h3
    refine if_p (fun h5 => ?_) (fun h5 => ?_)
    · replace h5 : (at_ l i).tag = 5 := h5
      cases hparts with
      | long _ hf he =>
        refine Exists.intro (at_ l i).n (And.intro (cellB hb8 rfl) ?_)
        refine call_ (WS1 base g v8 _ 8 (at_ l i).n w8 k8.wr Pool.w8 hf (by omega) (hbase k8)) ?_
        rintro e w11 ⟨rfl, v11, j11⟩
        refine ⟨_, rfl, ?_⟩
        exact ⟨n - (i + 1), i + 1, by omega, ⟨rfl, rfl, rfl, rfl, inc, trivial⟩, goal w11 v11 (close _ _ _ (k8.then j11) he)⟩
      | utf t => omega
      | int t => omega
      | cls t => omega
      | two t => exact absurd h5 t.2.2.1
    replace h5 : ¬ (at_ l i).tag = 5 := h5
    refine if_p (fun h7 => ?_) (fun h7 => ?_)
    · replace h7 : (at_ l i).tag = 7 := h7
      cases hparts with
      | cls _ hf he =>
        refine Exists.intro (at_ l i).a (And.intro (cellB hb8 rfl) ?_)
        refine call_ (WU1 base g v8 _ 2 (at_ l i).a w8 k8.wr Pool.w2 hf (by omega) (hbase k8)) ?_
        rintro e w11 ⟨rfl, v11, j11⟩
        refine ⟨_, rfl, ?_⟩
        exact ⟨n - (i + 1), i + 1, by omega, ⟨rfl, rfl, rfl, rfl, inc, trivial⟩, goal w11 v11 (close _ _ _ (k8.then j11) he)⟩
      | utf t => omega
      | int t => omega
      | long t => omega
      | two t => exact absurd h7 t.2.2.2
    replace h7 : ¬ (at_ l i).tag = 7 := h7
    cases hparts with
    | two _ hf hg he =>
      refine Exists.intro (at_ l i).a (And.intro (cellB hb8 rfl) ?_)
      refine Exists.intro (at_ l i).b (And.intro (cellB hb8 rfl) ?_)
      refine call_ (WU2 base g v8 _ 2 (at_ l i).a (at_ l i).b w8 k8.wr Pool.w2 hf hg (by omega) (hbase k8)) ?_
      rintro e w11 ⟨rfl, v11, j11⟩
      refine ⟨_, rfl, ?_⟩
      exact ⟨n - (i + 1), i + 1, by omega, ⟨rfl, rfl, rfl, rfl, inc, trivial⟩, goal w11 v11 (close _ _ _ (k8.then j11) he)⟩
    | utf t => omega
    | int t => omega
    | long t => omega
    | cls t => omega
  · replace hge : ¬ (i : Int) < n := hge
    refine ⟨rfl, vl, ?_⟩
    have : i = l.length := by omega
    subst this
    rw [List.take_length, hlen] at kl
    show Wk w base g v wl vl (bs ++ (enc 2 (l.length : Int) ++ ents (l.drop 1)))
    rw [ents_all hO.1]
    exact kl
end Go.Proofs.YtdcaafldnbcdkaaDoor.Pool

/-! ### KRep -/
namespace Go.Proofs.YtdcaafldnbcdkaaDoor.Class
open Go Go.Proofs.YtdcaafldnbcdkaaDoor Go.Proofs.YtdcaafldnbcdkaaDoor.Eng Go.Proofs Go.Proofs.YtdcaafldnbcdkaaDoor.Word Go.Proofs.YtdcaafldnbcdkaaDoor.Fmt
open Go.Proofs.YtdcaafldnbcdkaaDoor.Pool (Ent at_ poolF strV entC EntOk Pl)
set_option maxRecDepth 10000

/-! ### Members in memory -/
/-- How a value lies in memory: its cells, and rows behind them that are none of those blocks. -/
abbrev RepT (α : Type) := World → (Nat → Prop) → List Value → α → Prop
structure RepOk {α : Type} (R : RepT α) (sz : Nat) : Prop where
  mod : ∀ {w w' : World} {S : Nat → Prop} {cs : List Value} {x : α}, R w S cs x → Mod S w w' → R w' S cs x
  weak : ∀ {w : World} {S S' : Nat → Prop} {cs : List Value} {x : α}, R w S cs x → (∀ b, b < w.heap.size → S' b → S b) → R w S' cs x
  len : ∀ {w : World} {S : Nat → Prop} {cs : List Value} {x : α}, R w S cs x → cs.length = sz
  one : ∀ {w : World} {S : Nat → Prop} {cs : List Value} {x : α}, R w S cs x → ∀ u ∈ cs, u.oneCell' = true
abbrev cellsOf {α : Type} (ts : List (List Value × α)) : List Value := (ts.map (·.1)).flatten
/-- A list's row. -/
structure LRow {α : Type} (R : RepT α) (w : World) (S : Nat → Prop) (A : Option Addr) (ts : List (List Value × α)) : Prop where
  row : Row w A (cellsOf ts)
  off : ∀ a, A = some a → ts ≠ [] → a.block < w.heap.size ∧ ¬ S a.block
  mem : ∀ t ∈ ts, R w S t.1 t.2
/-- A list in memory. -/
def LRep {α : Type} (R : RepT α) (w : World) (S : Nat → Prop) (v : Value) (xs : List α) : Prop :=
  ∃ A c ts, v = .slice A xs.length c ∧ ts.map (·.2) = xs ∧ xs.length ≤ c ∧ c ≤ 9223372036854775807 ∧ xs.length ≤ 140737488355328 ∧ LRow R w S A ts
section
variable {α : Type} {R : RepT α} {sz : Nat} {w w' : World} {S S' : Nat → Prop} {v : Value} {xs : List α} {A : Option Addr} {ts : List (List Value × α)}
theorem LRow.mod (hR : RepOk R sz) (hsz : 0 < sz) (h : LRow R w S A ts) (m : Mod S w w') : LRow R w' S A ts := by
  refine ⟨?_, fun a ha hn => ⟨Nat.lt_of_lt_of_le (h.off a ha hn).1 m.size, (h.off a ha hn).2⟩, fun t ht => hR.mod (h.mem t ht) m⟩
  by_cases hn : ts = []
  · subst hn
    exact Row.nil _ _
  · exact h.row.mod m fun a ha => (h.off a ha hn).2
theorem LRow.weak (hR : RepOk R sz) (h : LRow R w S A ts) (hs : ∀ b, b < w.heap.size → S' b → S b) : LRow R w S' A ts :=
  ⟨h.row, fun a ha hn => ⟨(h.off a ha hn).1, fun e => (h.off a ha hn).2 (hs _ (h.off a ha hn).1 e)⟩, fun t ht => hR.weak (h.mem t ht) hs⟩
theorem LRep.mod (hR : RepOk R sz) (hsz : 0 < sz) (h : LRep R w S v xs) (m : Mod S w w') : LRep R w' S v xs := by
  obtain ⟨A, c, ts, h1, h2, h3, h4, h5, h6⟩ := h
  exact ⟨A, c, ts, h1, h2, h3, h4, h5, h6.mod hR hsz m⟩
theorem LRep.weak (hR : RepOk R sz) (h : LRep R w S v xs) (hs : ∀ b, b < w.heap.size → S' b → S b) : LRep R w S' v xs := by
  obtain ⟨A, c, ts, h1, h2, h3, h4, h5, h6⟩ := h
  exact ⟨A, c, ts, h1, h2, h3, h4, h5, h6.weak hR hs⟩
theorem LRep.one (h : LRep R w S v xs) : v.oneCell' = true := by
  obtain ⟨A, c, ts, h1, _⟩ := h
  rw [h1]
  rfl
theorem LRep.nil (w : World) (S : Nat → Prop) (A : Option Addr) (hA : True) : LRep R w S (.slice A 0 0) [] := ⟨A, 0, [], rfl, rfl, Nat.le_refl _, by omega, by simp, Row.nil _ _, fun _ _ h => absurd rfl h, fun _ h => (by cases h)⟩
theorem cells_len (hR : RepOk R sz) (h : ∀ t ∈ ts, R w S t.1 t.2) : (cellsOf ts).length = ts.length * sz := by
  induction ts with
  | nil => simp
  | cons t l ih =>
    have := ih fun y hy => h y (List.mem_cons_of_mem _ hy)
    simp only [cellsOf, List.map_cons, List.flatten_cons, List.length_append, List.length_cons] at this ⊢
    rw [this, hR.len (h t List.mem_cons_self), Nat.succ_mul]
    omega
/-- A member's cells. -/
theorem cells_at (hR : RepOk R sz) : ∀ {ts : List (List Value × α)}, (∀ t ∈ ts, R w S t.1 t.2) → ∀ (i : Nat) (hi : i < ts.length) (k : Nat) (u : Value), ts[i].1[k]? = some u → (cellsOf ts)[i * sz + k]? = some u
  | [], _, i, hi, _, _, _ => by simp at hi
  | t :: l, h, 0, _, k, u, hu => by
    have hk : k < t.1.length := (List.getElem?_eq_some_iff.1 hu).1
    simp only [cellsOf, List.map_cons, List.flatten_cons, Nat.zero_mul, Nat.zero_add]
    rw [List.getElem?_append_left hk]
    exact hu
  | t :: l, h, i + 1, hi, k, u, hu => by
    have hl := hR.len (h t List.mem_cons_self)
    have := cells_at hR (ts := l) (fun y hy => h y (List.mem_cons_of_mem _ hy)) i (by simpa using hi) k u (by simpa using hu)
    simp only [cellsOf, List.map_cons, List.flatten_cons]
    rw [List.getElem?_append_right (by rw [hl, Nat.succ_mul]; omega), hl, show (i + 1) * sz + k - sz = i * sz + k by rw [Nat.succ_mul]; omega]
    exact this
theorem LRow.at_ (hR : RepOk R sz) (hsz : 0 < sz) (h : LRow R w S A ts) {i : Nat} (hi : i < ts.length) : ∃ a, A = some a ∧ ∀ k u, ts[i].1[k]? = some u → w.cell? ((a.add (i * sz)).add k) = some u := by
  have key : ∀ k u, ts[i].1[k]? = some u → ∃ a, A = some a ∧ w.cell? (a.add (i * sz + k)) = some u := fun k u hu => h.row (i * sz + k) u (cells_at hR h.mem i hi k u hu)
  have hl := hR.len (h.mem _ (List.getElem_mem hi))
  obtain ⟨a, ha, _⟩ := key 0 ts[i].1[0] (by simp [List.getElem?_eq_getElem, hl, hsz])
  refine ⟨a, ha, fun k u hu => ?_⟩
  obtain ⟨a', ha', hc⟩ := key k u hu
  rw [ha] at ha'
  cases ha'
  rw [add_add_]
  exact hc
end
theorem cellsOf_snoc {α : Type} (ts : List (List Value × α)) (t : List Value × α) : cellsOf (ts ++ [t]) = cellsOf ts ++ t.1 := by simp [cellsOf]
/-- A member more: those that are there stay. -/
theorem mem_step {α : Type} {R : RepT α} {sz : Nat} (hR : RepOk R sz) {ts : List (List Value × α)} {w wl w5 w7 : World} {o o' : Option Nat} {cs : List Value} {x : α} {h g : Nat} (hts : ∀ t ∈ ts, R wl (fun b => b < w.heap.size ∨ some b = o) t.1 t.2)
    (hx : R w5 (fun b => b < wl.heap.size) cs x) (m5 : Mod (Pool.RS h g) wl w5) (k57 : Mod (fun b => some b = o) w5 w7) (hh : h < w.heap.size) (hg : g < w.heap.size) (hz : w.heap.size ≤ wl.heap.size) (ho : ∀ b, some b = o → w.heap.size ≤ b ∧ b < wl.heap.size)
    (st : ∀ b, some b = o' → some b = o ∨ w5.heap.size ≤ b) : ∀ t ∈ ts ++ [(cs, x)], R w7 (fun b => b < w.heap.size ∨ some b = o') t.1 t.2 := by
  intro t ht
  have m5z := m5.size
  rcases List.mem_append.1 ht with ht | ht
  · have h1 := hR.weak (S' := fun b => (b < w.heap.size ∨ some b = o) ∨ wl.heap.size ≤ b) (hts t ht) fun b hb e => e.resolve_right (by omega)
    have h2 := hR.mod h1 (m5.mono fun b hb e => .inl (.inl (by rcases e with e | e <;> omega)))
    have h3 := hR.mod h2 (k57.mono fun b hb e => .inl (.inr e))
    refine hR.weak h3 fun b hb e => ?_
    rcases e with e | e
    · exact .inl (.inl e)
    · rcases st b e with e | e
      · exact .inl (.inr e)
      · exact .inr (by omega)
  · rw [List.mem_singleton.1 ht]
    have h1 := hR.weak (S' := fun b => (b < w.heap.size ∨ some b = o) ∨ w5.heap.size ≤ b) hx fun b hb e => by
      rcases e with (e | e) | e
      · omega
      · exact (ho b e).2
      · omega
    have h3 := hR.mod h1 (k57.mono fun b hb e => .inl (.inr e))
    refine hR.weak h3 fun b hb e => ?_
    rcases e with e | e
    · exact .inl (.inl e)
    · rcases st b e with e | e
      · exact .inl (.inr e)
      · exact .inr e
theorem LRep.get {α : Type} {R : RepT α} {sz : Nat} {w : World} {S : Nat → Prop} {v : Value} {xs : List α} (hR : RepOk R sz) (hsz : 0 < sz) (h : LRep R w S v xs) : ∃ A c, v = .slice A xs.length c ∧ xs.length ≤ 140737488355328 ∧ ∀ (i : Nat) (hi : i < xs.length), ∃ a cs, A = some a ∧ R w S cs xs[i] ∧ ∀ k u, cs[k]? = some u → w.cell? ((a.add (i * sz)).add k) = some u := by
  obtain ⟨A, c, ts, h1, h2, h3, h4, h5, h6⟩ := h
  refine ⟨A, c, h1, h5, fun i hi => ?_⟩
  have hi' : i < ts.length := by rw [← h2] at hi; simpa using hi
  obtain ⟨a, ha, hc⟩ := h6.at_ hR hsz hi'
  have e : xs[i] = ts[i].2 := by subst h2; simp
  exact ⟨a, ts[i].1, ha, by rw [e]; exact h6.mem _ (List.getElem_mem hi'), hc⟩
abbrev zi (n : Int) : Value := .int .i64 n
def tyR : RepT Ty := fun _ _ cs x => cs = [zi x.kind, strV x.name]
theorem tyOk : RepOk tyR 2 := ⟨fun h _ => h, fun h _ => h, fun h => by rw [h]; rfl, fun h u hu => by
  rw [h] at hu
  simp only [entC, List.mem_cons, List.not_mem_nil, or_false] at hu
  rcases hu with hu | hu <;> (rw [hu]; rfl)⟩
def hndR : RepT Hnd := fun _ _ cs x => cs = [zi x.from_, zi x.to, zi x.at_, zi x.cls]
theorem hndOk : RepOk hndR 4 := ⟨fun h _ => h, fun h _ => h, fun h => by rw [h]; rfl, fun h u hu => by
  rw [h] at hu
  simp only [entC, List.mem_cons, List.not_mem_nil, or_false] at hu
  rcases hu with hu | hu | hu | hu <;> (rw [hu]; rfl)⟩
def entR : RepT Ent := fun _ _ cs x => cs = entC x
theorem entOk : RepOk entR 5 := ⟨fun h _ => h, fun h _ => h, fun h => by rw [h]; rfl, fun h u hu => by
  rw [h] at hu
  simp only [entC, List.mem_cons, List.not_mem_nil, or_false] at hu
  rcases hu with hu | hu | hu | hu | hu <;> (rw [hu]; rfl)⟩
def fldR : RepT Fld := fun _ _ cs x => cs = [zi x.acc, strV x.name, strV x.typ]
theorem fldOk : RepOk fldR 3 := ⟨fun h _ => h, fun h _ => h, fun h => by rw [h]; rfl, fun h u hu => by
  rw [h] at hu
  simp only [entC, List.mem_cons, List.not_mem_nil, or_false] at hu
  rcases hu with hu | hu | hu <;> (rw [hu]; rfl)⟩
def u8R : RepT UInt8 := fun _ _ cs x => cs = [.int .u8 (x.toNat : Int)]
theorem u8Ok : RepOk u8R 1 := ⟨fun h _ => h, fun h _ => h, fun h => by rw [h]; rfl, fun h u hu => by
  rw [h] at hu
  simp only [entC, List.mem_cons, List.not_mem_nil, or_false] at hu
  (rw [hu]; rfl)⟩
def mpR : RepT Mp := fun w S cs x => ∃ a b, cs = [zi x.at_, a, b] ∧ LRep tyR w S a x.locals ∧ LRep tyR w S b x.stack
theorem mpOk : RepOk mpR 3 := ⟨fun ⟨a, b, h, h0, h1⟩ m => ⟨a, b, h, h0.mod tyOk (by decide) m, h1.mod tyOk (by decide) m⟩, fun ⟨a, b, h, h0, h1⟩ m => ⟨a, b, h, h0.weak tyOk m, h1.weak tyOk m⟩, fun ⟨a, b, h, h0, h1⟩ => by rw [h]; rfl, fun ⟨a, b, h, h0, h1⟩ u hu => by
  rw [h] at hu
  simp only [List.mem_cons, List.not_mem_nil, or_false] at hu
  rcases hu with hu | hu | hu <;> first
    | (rw [hu]; rfl)
    | (rw [hu]; exact h0.one)
    | (rw [hu]; exact h1.one)⟩
def codR : RepT Cod := fun w S cs x => ∃ a b c, cs = [zi x.stack, zi x.locals, a, b, c] ∧ LRep u8R w S a x.bytes ∧ LRep hndR w S b x.hands ∧ LRep mpR w S c x.maps
theorem codOk : RepOk codR 5 := ⟨fun ⟨a, b, c, h, h0, h1, h2⟩ m => ⟨a, b, c, h, h0.mod u8Ok (by decide) m, h1.mod hndOk (by decide) m, h2.mod mpOk (by decide) m⟩, fun ⟨a, b, c, h, h0, h1, h2⟩ m => ⟨a, b, c, h, h0.weak u8Ok m, h1.weak hndOk m, h2.weak mpOk m⟩, fun ⟨a, b, c, h, h0, h1, h2⟩ => by rw [h]; rfl, fun ⟨a, b, c, h, h0, h1, h2⟩ u hu => by
  rw [h] at hu
  simp only [List.mem_cons, List.not_mem_nil, or_false] at hu
  rcases hu with hu | hu | hu | hu | hu <;> first
    | (rw [hu]; rfl)
    | (rw [hu]; exact h0.one)
    | (rw [hu]; exact h1.one)
    | (rw [hu]; exact h2.one)⟩
def mthR : RepT Mth := fun w S cs x => ∃ a b c, cs = [zi x.acc, strV x.name, strV x.typ, zi x.code.stack, zi x.code.locals, a, b, c] ∧ LRep u8R w S a x.code.bytes ∧ LRep hndR w S b x.code.hands ∧ LRep mpR w S c x.code.maps
theorem mthOk : RepOk mthR 8 := ⟨fun ⟨a, b, c, h, h0, h1, h2⟩ m => ⟨a, b, c, h, h0.mod u8Ok (by decide) m, h1.mod hndOk (by decide) m, h2.mod mpOk (by decide) m⟩, fun ⟨a, b, c, h, h0, h1, h2⟩ m => ⟨a, b, c, h, h0.weak u8Ok m, h1.weak hndOk m, h2.weak mpOk m⟩, fun ⟨a, b, c, h, h0, h1, h2⟩ => by rw [h]; rfl, fun ⟨a, b, c, h, h0, h1, h2⟩ u hu => by
  rw [h] at hu
  simp only [List.mem_cons, List.not_mem_nil, or_false] at hu
  rcases hu with hu | hu | hu | hu | hu | hu | hu | hu <;> first
    | (rw [hu]; rfl)
    | (rw [hu]; exact h0.one)
    | (rw [hu]; exact h1.one)
    | (rw [hu]; exact h2.one)⟩
def clsR : RepT Cls := fun w S cs x => ∃ a b c, cs = [a, strV x.name, strV x.super, b, c] ∧ LRep entR w S a x.pool ∧ LRep fldR w S b x.fields ∧ LRep mthR w S c x.methods
theorem clsOk : RepOk clsR 5 := ⟨fun ⟨a, b, c, h, h0, h1, h2⟩ m => ⟨a, b, c, h, h0.mod entOk (by decide) m, h1.mod fldOk (by decide) m, h2.mod mthOk (by decide) m⟩, fun ⟨a, b, c, h, h0, h1, h2⟩ m => ⟨a, b, c, h, h0.weak entOk m, h1.weak fldOk m, h2.weak mthOk m⟩, fun ⟨a, b, c, h, h0, h1, h2⟩ => by rw [h]; rfl, fun ⟨a, b, c, h, h0, h1, h2⟩ u hu => by
  rw [h] at hu
  simp only [List.mem_cons, List.not_mem_nil, or_false] at hu
  rcases hu with hu | hu | hu | hu | hu <;> first
    | (rw [hu]; rfl)
    | (rw [hu]; exact h0.one)
    | (rw [hu]; exact h1.one)
    | (rw [hu]; exact h2.one)⟩
/-- Bytes in a row. -/
theorem bytes_cells : ∀ {ts : List (List Value × UInt8)} {w : World} {S : Nat → Prop}, (∀ t ∈ ts, u8R w S t.1 t.2) → cellsOf ts = bvs (ts.map (·.2))
  | [], _, _, _ => rfl
  | t :: l, w, S, h => by
    have h1 : t.1 = [.int .u8 (t.2.toNat : Int)] := h t List.mem_cons_self
    have h2 := bytes_cells (ts := l) fun y hy => h y (List.mem_cons_of_mem _ hy)
    show t.1 ++ cellsOf l = _
    rw [h1, h2]
    rfl
theorem bytes_row {w : World} {S : Nat → Prop} {v : Value} {xs : List UInt8} (h : LRep u8R w S v xs) : ∃ A c, v = .slice A xs.length c ∧ Row w A (bvs xs) ∧ xs.length ≤ c ∧ c ≤ 9223372036854775807 ∧ ∀ a, A = some a → xs ≠ [] → a.block < w.heap.size ∧ ¬ S a.block := by
  obtain ⟨A, c, ts, h1, h2, h3, h4, h5, h6⟩ := h
  refine ⟨A, c, h1, ?_, h3, h4, fun a ha hn => h6.off a ha fun e => hn ?_⟩
  · have := h6.row
    rw [bytes_cells h6.mem, h2] at this
    exact this
  · rw [← h2, e]
    rfl
/-- A pool in a row. -/
theorem ents_cells : ∀ {ts : List (List Value × Ent)} {w : World} {S : Nat → Prop}, (∀ t ∈ ts, entR w S t.1 t.2) → ts.map (·.1) = (ts.map (·.2)).map entC
  | [], _, _, _ => rfl
  | t :: l, w, S, h => by
    have h1 : t.1 = entC t.2 := h t List.mem_cons_self
    have h2 := ents_cells (ts := l) fun y hy => h y (List.mem_cons_of_mem _ hy)
    rw [List.map_cons, h1, h2]
    rfl
theorem pool_row {w : World} {S : Nat → Prop} {v : Value} {l : List Ent} (h : LRep entR w S v l) (ho : ∀ x ∈ l, EntOk x) : ∃ A c, v = .slice A l.length c ∧ Pl w A l.length l ∧ l.length ≤ c ∧ c ≤ 9223372036854775807 ∧ ∀ a, A = some a → l ≠ [] → a.block < w.heap.size ∧ ¬ S a.block := by
  obtain ⟨A, c, ts, h1, h2, h3, h4, h5, h6⟩ := h
  refine ⟨A, c, h1, ⟨rfl, ?_, ho, by omega⟩, h3, h4, fun a ha hn => h6.off a ha fun e => hn ?_⟩
  · rw [← h2, ← ents_cells h6.mem]
    intro i cs hi
    rw [List.getElem?_map, Option.map_eq_some_iff] at hi
    obtain ⟨t, ht, rfl⟩ := hi
    have hl := (List.getElem?_eq_some_iff.1 ht).1
    have ht2 : ts[i] = t := (List.getElem?_eq_some_iff.1 ht).2
    have hm := h6.mem t (by rw [← ht2]; exact List.getElem_mem hl)
    obtain ⟨a, ha, hc⟩ := h6.at_ entOk (by decide) hl
    rw [ht2] at hc
    exact ⟨entOk.len hm, a, ha, hc⟩
  · rw [← h2, e]
    rfl
end Go.Proofs.YtdcaafldnbcdkaaDoor.Class

/-! ### KWrite1 -/
namespace Go.Proofs.YtdcaafldnbcdkaaDoor.Class
open Go Go.Proofs.YtdcaafldnbcdkaaDoor Go.Proofs.YtdcaafldnbcdkaaDoor.Eng Go.Proofs Go.Proofs.YtdcaafldnbcdkaaDoor.Word Go.Proofs.YtdcaafldnbcdkaaDoor.Fmt
open Go.Proofs.YtdcaafldnbcdkaaDoor.Pool (Ent at_ poolF strV entC entV EntOk Pl OkPool both own_low tagAt)
set_option maxRecDepth 10000

/-- A pool in memory, and the table of kinds. -/
structure Po where
  A : Option Addr
  c : Nat
  l : List Ent
abbrev Po.v (p : Po) : Value := .slice p.A p.l.length p.c
def Kt (w : World) : Prop := ∀ k : Int, 0 ≤ k → k < 5 → w.cell? ⟨0, k.toNat, none⟩ = some (zi (kindNo k))
structure Cx (w : World) (base : Nat) (p : Po) : Prop where
  pl : Pl w p.A p.l.length p.l
  low : ∀ a, p.A = some a → p.l ≠ [] → a.block < base
  tbl : Kt w
  b0 : 0 < base
  bw : base ≤ w.heap.size
  big : p.l.length ≤ 140737488355328
theorem Cx.mod {S : Nat → Prop} {w w' : World} {base : Nat} {p : Po} (c : Cx w base p) (m : Mod S w w') (hS : ∀ b, b < w.heap.size → S b → base ≤ b) : Cx w' base p := by
  have hb := c.bw
  refine ⟨c.pl.mod m fun a ha hn e => ?_, c.low, fun k h0 h5 => m.cell (c.tbl k h0 h5) fun e => ?_, c.b0, Nat.le_trans c.bw m.size, c.big⟩
  · have := c.low a ha hn
    have := hS _ (by omega) e
    omega
  · have h1 := c.b0
    have e : S 0 := e
    have h2 := hS _ (by omega) e
    omega
theorem Cx.new {w w' : World} {base : Nat} {p : Po} (c : Cx w base p) (n : New w w') : Cx w' base p := c.mod n fun _ _ h => h.elim
/-- A writer of classes in memory. -/
structure Wi (w : World) (base : Nat) (p : Po) (h g : Nat) (v : Value) (t : WT) : Prop where
  blk : w.heap[h]? = some (.cells #[.pointer (some ⟨g, 0, none⟩), p.v, .bool t.2] 82 (0, 0))
  wr : Wr w base g v t.1
  ne : h ≠ g
  off : v.ownBlock ≠ some h
  bh : base ≤ h
  bg : base ≤ g
  cx : Cx w base p
section
variable {w w' w1 w2 : World} {base h g : Nat} {p : Po} {v v' v1 v2 : Value} {t t2 : WT}
theorem Wi.lt (c : Wi w base p h g v t) : h < w.heap.size ∧ g < w.heap.size := ⟨(Array.getElem?_eq_some_iff.1 c.blk).1, c.wr.lt⟩
theorem Wi.bw (c : Wi w base p h g v t) : base ≤ w.heap.size := c.cx.bw
theorem Wi.new (c : Wi w base p h g v t) (n : New w w') : Wi w' base p h g v t := ⟨n.blk c.blk, c.wr.new n, c.ne, c.off, c.bh, c.bg, c.cx.new n⟩
abbrev WH (h g : Nat) (v : Value) : Nat → Prop := fun b => WS g v b ∨ b = h
structure Ki (w : World) (base : Nat) (p : Po) (h g : Nat) (v : Value) (w' : World) (v' : Value) (t : WT) : Prop where
  wi : Wi w' base p h g v' t
  mod : Mod (WH h g v) w w'
  st : stayed w v v'
theorem Ki.refl (c : Wi w base p h g v t) : Ki w base p h g v w v t := ⟨c, Mod.refl _ _, stayed.refl w v⟩
theorem Ki.new (c : Ki w base p h g v w' v' t) (n : New w' w2) : Ki w base p h g v w2 v' t := ⟨c.wi.new n, both c.mod n.mod, c.st⟩
theorem Ki.then (c : Ki w base p h g v w1 v1 t) (k : Ki w1 base p h g v1 w2 v2 t2) : Ki w base p h g v w2 v2 t2 := by
  refine ⟨k.wi, Mod.trans c.mod k.mod ?_, stayed.trans c.st c.mod.size k.st⟩
  rintro b hb ((e | e) | e)
  · exact .inl (.inl e)
  · rcases c.st b e.symm with h1 | h1
    · exact .inl (.inr h1.symm)
    · omega
  · exact .inr e
theorem Wi.at_ (c : Wi w base p h g v t) {b : Nat} (e : WH h g v b) : base ≤ b := by
  have h1 := c.bh
  have h2 := c.bg
  rcases e with (e | e) | e
  · omega
  · exact (c.wr.vlt e.symm).1
  · omega
theorem Wi.old (c : Wi w base p h g v t) (m : Mod (WH h g v) w w') : Mod (fun b => base ≤ b) w w' := m.mono fun b _ e => c.at_ e
theorem Ki.old {t' : WT} (c : Wi w base p h g v t) (k : Ki w base p h g v w' v' t') : Mod (fun b => base ≤ b) w w' := c.old k.mod
theorem Wi.hi (c : Wi w base p h g v t) {b : Nat} (hb : w.heap.size ≤ b) : ¬ WH h g v b := by
  have := c.lt
  rintro ((e | e) | e)
  · omega
  · exact absurd (c.wr.vlt e.symm).2 (by omega)
  · omega
theorem wr_mod {S : Nat → Prop} {bs : List UInt8} (h : Wr w base g v bs) (m : Mod S w w') (hg : ¬ S g) (hv : ∀ k, v.ownBlock = some k → ¬ S k) : Wr w' base g v bs :=
  ⟨m.blk h.blk hg, own_mod m h.own hv, h.off⟩
theorem Wi.set (c : Wi w base p h g v t) (m : Mod (fun b => b = h) w w') {b : Bool} (hb : w'.heap[h]? = some (.cells #[.pointer (some ⟨g, 0, none⟩), p.v, .bool b] 82 (0, 0))) : Ki w base p h g v w' v (t.1, b) :=
  ⟨⟨hb, wr_mod c.wr m (fun e => c.ne e.symm) (fun k hk e => c.off (by rw [hk, e])), c.ne, c.off, c.bh, c.bg, c.cx.mod m fun b _ e => by rw [e]; exact c.bh⟩, m.mono fun _ _ e => .inr e, stayed.refl w v⟩
theorem Wi.act {bs : List UInt8} (c : Wi w base p h g v t) (k : Wk w base g v w' v' bs) : Ki w base p h g v w' v' (bs, t.2) := by
  have hl := c.lt.1
  refine ⟨⟨k.mod.blk c.blk ?_, k.wr, c.ne, ?_, c.bh, c.bg, c.cx.mod k.mod fun b _ e => c.at_ (.inl e)⟩, k.mod.mono fun _ _ e => .inl e, k.st⟩
  · rintro (e | e)
    · exact c.ne e
    · exact c.off e.symm
  · intro e
    rcases k.st h e with e | e
    · exact c.off e
    · omega
/-- A block that is none of the writer's stays. -/
theorem Ki.blk {t' : WT} {o : Obj} {b : Nat} (k : Ki w base p h g v w' v' t') (hb : w.heap[b]? = some o) (hn : ¬ WH h g v b) : w'.heap[b]? = some o := k.mod.blk hb hn
theorem Ki.hid {t' : WT} (k : Ki w base p h g v w' v' t') {b : Nat} (hb : b < w.heap.size) (hn : ¬ WH h g v b) : ¬ WH h g v' b := by
  rintro ((e | e) | e)
  · exact hn (.inl (.inl e))
  · rcases k.st b e.symm with h1 | h1
    · exact hn (.inl (.inr h1.symm))
    · omega
  · exact hn (.inr e)
end
theorem cell0 {w : World} {b : Nat} {u : Value} {ty : TypeId} (h : w.heap[b]? = some (.cells #[u] ty (0, 0))) : w.cell? ⟨b, 0, none⟩ = some u := by
  rw [cell_of_row _ _ 0 _ _ _ h]
  rfl
theorem allErr_good (k : Int) (zs : List Int) : (!decide (allErr k false zs = 0)) = !good k false zs := by
  unfold allErr
  cases good k false zs <;> rfl
theorem must_ok (base : Nat) (p : Po) (h g : Nat) (v : Value) (t : WT) (is : Bool) (w : World) (c : Wi w base p h g v t) :
    Calls Tryd.prog 41 #[.pointer (some ⟨h, 0, none⟩), .bool is] w fun e w' => e = .returned (.tuple #[]) ∧ Ki w base p h g v w' v (t.1, t.2 || !is) := by
  refine enter ok Tryd.func41 rfl rfl rfl ?_
  have hb := c.blk
  refine Exists.intro t.2 (And.intro (cellB hb rfl) ?_)
  refine if_ (fun hx => ?_) (fun hx => ?_)
  · refine And.intro ⟨_, cellB hb rfl⟩ (And.intro (fzB hb _) (force_ ?_))
    refine stK hb (show (2 : Nat) < 3 by decide) ?_
    intro w1 hb1 m1 s1
    rw [hx, Bool.true_or]
    exact ⟨rfl, c.set m1 hb1⟩
  · refine And.intro ⟨_, cellB hb rfl⟩ (And.intro (fzB hb _) (force_ ?_))
    refine stK hb (show (2 : Nat) < 3 by decide) ?_
    intro w1 hb1 m1 s1
    rw [hx, Bool.false_or]
    exact ⟨rfl, c.set m1 hb1⟩
theorem two_ok (base : Nat) (p : Po) (h g : Nat) (v : Value) (t : WT) (C : Option Addr) (q qc : Nat) (zs : List Int) (w : World) (c : Wi w base p h g v t) (hz : Row w C (ivs zs)) (hq : q = zs.length) (hC : ∀ a, C = some a → zs ≠ [] → ¬ WS g v a.block) (hm : t.1.length + 8 * zs.length ≤ 140737488355328) :
    Calls Tryd.prog 36 #[.pointer (some ⟨h, 0, none⟩), .slice C q qc] w fun e w' => e = .returned (.tuple #[]) ∧ ∃ v', Ki w base p h g v w' v' (noteU t 2 zs) := by
  refine enter ok Tryd.func36 rfl rfl rfl ?_
  refine Exists.intro (some ⟨g, 0, none⟩) (And.intro (cellB c.blk rfl) ?_)
  refine call_ (WU_ok base g v t.1 ((2 : Nat) : Int) C q qc zs w c.wr hz hq hC hm c.bw) ?_
  rintro e w1 ⟨rfl, v1, h1, h2, h3⟩
  refine ⟨_, rfl, ?_⟩
  have c1 := c.act ⟨h1, h2, h3⟩
  have hb := c1.wi.blk
  have hg := allErr_good ((2 : Nat) : Int) zs
  refine if_n (fun hne => ?_) (fun h0 => ?_)
  · replace hne : ¬ allErr ((2 : Nat) : Int) false zs = 0 := hne
    rw [decide_eq_false hne] at hg
    have e : noteU t 2 zs = (allBs t.1 ((2 : Nat) : Int) false zs, true) := by
      unfold noteU
      rw [← hg]
      simp
    rw [e]
    refine And.intro ⟨_, cellB hb rfl⟩ (And.intro (fzB hb _) (force_ ?_))
    refine stK hb (show (2 : Nat) < 3 by decide) ?_
    intro w2 hb2 m2 s2
    exact ⟨rfl, v1, c1.then (c1.wi.set m2 hb2)⟩
  · replace h0 : allErr ((2 : Nat) : Int) false zs = 0 := h0
    rw [decide_eq_true h0] at hg
    have e : noteU t 2 zs = (allBs t.1 ((2 : Nat) : Int) false zs, t.2) := by
      unfold noteU
      rw [← hg]
      simp
    rw [e]
    refine Exists.intro t.2 (And.intro (cellB hb rfl) ?_)
    refine And.intro ⟨_, cellB hb rfl⟩ (And.intro (fzB hb _) (force_ ?_))
    refine stK hb (show (2 : Nat) < 3 by decide) ?_
    intro w2 hb2 m2 s2
    exact ⟨rfl, v1, c1.then (c1.wi.set m2 hb2)⟩
/-- Numbers of a block of their own. -/
theorem two1_ok (base : Nat) (p : Po) (h g : Nat) (v : Value) (t : WT) (zs : List Int) (n : Nat) (w : World) (c : Wi w base p h g v t) (hn : n = zs.length) (hm : t.1.length + 8 * zs.length ≤ 140737488355328) :
    Calls Tryd.prog 36 #[.pointer (some ⟨h, 0, none⟩), .slice (some ⟨w.heap.size, 0, none⟩) n n] (w.alloc (.cells (ivs zs).toArray 3)) fun e w' => e = .returned (.tuple #[]) ∧ ∃ v', Ki w base p h g v w' v' (noteU t 2 zs) := by
  have n1 := New.alloc w (.cells (ivs zs).toArray 3)
  refine (two_ok base p h g v t (some ⟨w.heap.size, 0, none⟩) n n zs _ (c.new n1) (row_alloc w (ivs zs) _ _) hn c.wr.off1 hm).mono ?_
  rintro e w' ⟨rfl, v', k'⟩
  exact ⟨rfl, v', ((Ki.refl c).new n1).then k'⟩
theorem WUn (base : Nat) (p : Po) (h g : Nat) (v : Value) (t : WT) (k : Nat) (z : Int) (w : World) (c : Wi w base p h g v t) (hm : t.1.length ≤ 1000000000) :
    Calls Tryd.prog 35 #[.pointer (some ⟨g, 0, none⟩), .int .i64 (k : Int), .slice (some ⟨w.heap.size, 0, none⟩) 1 1] (w.alloc (.cells #[.int .i64 z] 3)) fun e w' => e = .returned (.int .i64 (allErr k false [z])) ∧ ∃ v', Ki w base p h g v w' v' (allBs t.1 k false [z], t.2) := by
  have a1 := New.alloc w (.cells #[.int .i64 z] 3)
  refine (WU_ok base g v t.1 k (some ⟨w.heap.size, 0, none⟩) 1 1 [z] _ (c.wr.new a1) (one_i64 w z) rfl c.wr.off1 (by simp; omega) (Nat.le_trans c.bw a1.size)).mono ?_
  rintro e w' ⟨rfl, v', h1, h2, h3⟩
  exact ⟨rfl, v', c.act (wk_of c.wr h1 h2 h3)⟩
/-- Bytes put. -/
theorem WBn (base : Nat) (p : Po) (h g : Nat) (v : Value) (t : WT) (C : Option Addr) (q qc : Nat) (ys : List UInt8) (w : World) (c : Wi w base p h g v t) (hy : Row w C (bvs ys)) (hq : q = ys.length) (hm : t.1.length + ys.length ≤ 1000000000) :
    Calls Tryd.prog 72 #[.pointer (some ⟨g, 0, none⟩), .slice C q qc] w fun e w' => e = .returned (.int .i64 0) ∧ ∃ v', Ki w base p h g v w' v' (t.1 ++ ys, t.2) := by
  refine (WB1 base g v t.1 C q qc ys w c.wr hy hq hm c.bw).mono ?_
  rintro e w' ⟨rfl, v', k⟩
  exact ⟨rfl, v', c.act k⟩
theorem part_ok (base : Nat) (p : Po) (h g : Nat) (v : Value) (t : WT) (w : World) (c : Wi w base p h g v t) :
    Calls Tryd.prog 45 #[.pointer (some ⟨h, 0, none⟩)] w fun e w' => ∃ h', h' ≠ w.heap.size ∧ e = .returned (.pointer (some ⟨h', 0, none⟩)) ∧ Wi w' base p h' w.heap.size (.slice none 0 0) ([], false) ∧ w.heap.size ≤ h' ∧ New w w' := by
  refine enter ok Tryd.func45 rfl rfl rfl ?_
  refine seq_assign ?_
  refine seq_cut (σ := Nat) (fun h' => [(2, .pointer (some ⟨h', 0, none⟩))]) (fun h' w' => h' ≠ w.heap.size ∧ Wi w' base p h' w.heap.size (.slice none 0 0) ([], false) ∧ w.heap.size ≤ h' ∧ New w w') ?_ ?_
  rotate_left
  · intro K hK
    refine draw_ (w := w) ok (.q 1 (.q 2 (.q 3 (.q 4 (.e 0 (.q 5 (.e 6 (.q 7 .done)))))))) [7] (New w) (by kernel_rfl) (by kernel_rfl) (by kernel_rfl) (by kernel_rfl) (by kernel_rfl) (New.drew _) ?_
    refine Exists.intro p.A (Exists.intro p.l.length (Exists.intro p.c (And.intro (fun w'' hw => cellB (hw.blk c.blk) rfl) ?_)))
    have nd := New.drew w
    have zd : w.drew.heap.size = w.heap.size := rfl
    refine call_ (Make_ok w.drew) ?_
    rintro e w2 ⟨rfl, wr2, n2, s2⟩
    refine ⟨_, rfl, ?_⟩
    refine Exists.intro (New w) (And.intro (fun _ h => h) (And.intro (nd.trans n2) ?_))
    have n3 := New.alloc w2 (.cells #[.pointer (some ⟨w.heap.size, 0, none⟩), p.v, .bool false] 82)
    have hb3 := heap_alloc_new w2 (.cells #[.pointer (some ⟨w.heap.size, 0, none⟩), p.v, .bool false] 82)
    have hw := c.bw
    refine Exists.intro (New w) (And.intro (fun _ h => h) (And.intro ((nd.trans n2).trans n3) ?_))
    refine hK w2.heap.size _ _ ⟨rfl, trivial⟩ ⟨by omega, ⟨hb3, ⟨(wr2.new n3).blk, ⟨rfl, .inl ⟨rfl, rfl⟩⟩, (wr2.new n3).off⟩, by omega, (fun h => by cases h), by omega, by omega, c.cx.new ((nd.trans n2).trans n3)⟩, by omega, (nd.trans n2).trans n3⟩
  rintro h' w2 fr2 ⟨hne, c2, hle, n2⟩
  exact ⟨h', hne, rfl, c2, hle, n2⟩
theorem idx_step {P : Ent → List UInt8 → Bool} {l : List Ent} {s : List UInt8} {i : Nat} (hi : i < l.length) (h : i ≤ idx P l s) (hp : P l[i] s = false) : i + 1 ≤ idx P l s := by
  rcases Nat.lt_or_ge i (idx P l s) with h1 | h1
  · exact h1
  · have e : idx P l s = i := by omega
    have := idx_at (P := P) (l := l) (s := s) (by omega)
    simp only [e] at this
    rw [hp] at this
    cases this
theorem idx_here {P : Ent → List UInt8 → Bool} {l : List Ent} {s : List UInt8} {i : Nat} (hi : i < l.length) (h : i ≤ idx P l s) (hp : P l[i] s = true) : idx P l s = i := by
  have h1 : idx P l s ≤ i := by
    unfold idx
    refine Nat.le_of_not_lt fun hc => ?_
    have := List.not_of_lt_findIdx hc
    rw [hp] at this
    cases this
  omega
theorem text1_ok (p : Po) (base : Nat) (s : List UInt8) (x : Ent) (S : Addr) (w : World) (_ : Cx w base p) (hS : w.cell? S = some (strV s)) :
    Calls Tryd.prog 76 #[.agg (entC x).toArray, .pointer (some S)] w fun e w' => e = .returned (.bool (utfP x s)) ∧ New w w' := by
  refine enter ok Tryd.func76 rfl rfl rfl ?_
  refine seq_cut (σ := Unit) (fun _ => [(1, .pointer (some S)), (2, .pointer (some ⟨w.heap.size, 0, none⟩))]) (fun _ w' => New w w' ∧ w'.heap[w.heap.size]? = some (.cells (entC x).toArray 42 (0, 0))) ?_ ?_
  rotate_left
  · intro K hK
    exact hK () _ _ ⟨rfl, rfl, trivial⟩ ⟨New.alloc w _, heap_alloc_new w (.cells (entC x).toArray 42)⟩
  rintro _ w1 fr1 ⟨n1, hX⟩
  refine Exists.intro x.tag (And.intro (cellB hX rfl) ?_)
  unfold utfP
  refine if_p (fun h1 => ?_) (fun h1 => ?_)
  · replace h1 : x.tag = 1 := h1
    refine Exists.intro (⟨x.text.toArray⟩ : ByteArray) (And.intro (cellB hX rfl) ?_)
    refine Exists.intro (⟨s.toArray⟩ : ByteArray) (And.intro (n1.cell hS) ?_)
    rw [decide_eq_true h1, Bool.true_and, ← Base.same_iff]
    exact ⟨rfl, n1⟩
  · replace h1 : ¬ x.tag = 1 := h1
    rw [decide_eq_false h1, Bool.false_and]
    exact ⟨rfl, n1⟩
theorem class1_ok (p : Po) (base : Nat) (s : List UInt8) (X Y : Addr) (h g : Nat) (v : Value) (t : WT) (hp : Nat) (x : Ent) (w : World) (c : Cx w base p) (hX : w.cell? X = some (.pointer (some ⟨h, 0, none⟩))) (hY : w.cell? Y = some (strV s)) (hH : w.heap[h]? = some (.cells #[.pointer (some ⟨g, 0, none⟩), p.v, .bool t.2] 82 (0, 0))) (hin : x.tag = 7 → 0 ≤ x.a ∧ x.a < (p.l.length : Int)) :
    Calls Tryd.prog 75 #[.agg (entC x).toArray, .pointer (some X), .pointer (some Y)] w fun e w' => e = .returned (.bool (clsP p.l x s)) ∧ New w w' := by
  refine enter ok Tryd.func75 rfl rfl rfl ?_
  refine seq_cut (σ := Unit) (fun _ => [(1, .pointer (some X)), (2, .pointer (some Y)), (3, .pointer (some ⟨w.heap.size, 0, none⟩))]) (fun _ w' => New w w' ∧ w'.heap[w.heap.size]? = some (.cells (entC x).toArray 42 (0, 0))) ?_ ?_
  rotate_left
  · intro K hK
    exact hK () _ _ ⟨rfl, rfl, rfl, trivial⟩ ⟨New.alloc w _, heap_alloc_new w (.cells (entC x).toArray 42)⟩
  rintro _ w1 fr1 ⟨n1, hx⟩
  refine seq_cut (σ := Bool) (fun b => [(4, .bool b)]) (fun b w' => b = clsP p.l x s ∧ New w w') ?_ ?_
  rotate_left
  · intro K hK
    unfold clsP at hK
    refine draw_ (w := w1) ok (.q 0 (.q 1 (.q 2 (.q 3 (.q 4 (.q 5 (.q 6 (.q 7 (.q 8 (.q 9 (.q 10 (.q 11 (.q 12 (.q 13 (.q 14 (.q 15 (.q 16 .done))))))))))))))))) [16] (New w1) (by kernel_rfl) (by kernel_rfl) (by kernel_rfl) (by kernel_rfl) (by kernel_rfl) (New.drew _) ?_
    refine Exists.intro x.tag (And.intro (fun w'' hw => cellB (hw.blk hx) rfl) ?_)
    refine if_p (fun h1 => ?_) (fun h1 => ?_)
    · replace h1 : x.tag = 7 := h1
      have h2 := hin h1
      have c1 := c.new n1
      have hi : x.a.toNat < p.l.length := by omega
      obtain ⟨a, ea, hok, hc⟩ := c1.pl.at_ hi
      refine Exists.intro (some ⟨h, 0, none⟩) (And.intro (fun w'' hw => hw.cell (n1.cell hX)) ?_)
      refine Exists.intro p.A (Exists.intro p.l.length (Exists.intro p.c (And.intro (fun w'' hw => cellB (hw.blk (n1.blk hH)) rfl) ?_)))
      refine Exists.intro x.a (And.intro (fun w'' hw => cellB (hw.blk hx) rfl) ?_)
      refine And.intro h2.1 (And.intro h2.2 ?_)
      refine some_at ea ?_
      have e1 : at_ p.l ((x.a.toNat : Nat) : Int) = at_ p.l x.a := by rw [Int.toNat_of_nonneg h2.1]
      rw [e1] at hc
      refine Exists.intro (⟨(at_ p.l x.a).text.toArray⟩ : ByteArray) (And.intro (fun w'' hw => hw.cell (hc 1 _ rfl)) ?_)
      refine Exists.intro (⟨s.toArray⟩ : ByteArray) (And.intro (fun w'' hw => hw.cell (n1.cell hY)) ?_)
      refine hK _ _ _ ⟨rfl, trivial⟩ ⟨?_, n1.trans (New.drew _)⟩
      rw [decide_eq_true h1, Bool.true_and, ← Base.same_iff]
    · replace h1 : ¬ x.tag = 7 := h1
      refine hK _ _ _ ⟨rfl, trivial⟩ ⟨?_, n1.trans (New.drew _)⟩
      rw [decide_eq_false h1, Bool.false_and]
  rintro b w2 fr2 ⟨rfl, n2⟩
  exact ⟨rfl, n2⟩
theorem index_text (p : Po) (base : Nat) (s : List UInt8) (S : Addr) (w : World) (c : Cx w base p) (hS : w.cell? S = some (strV s)) :
    Calls Tryd.prog 104 #[p.v, .func (.func 76) #[] #[.pointer (some S)]] w fun e w' => e = .returned (zi (findI utfP p.l s)) ∧ New w w' := by
  refine enter ok Tryd.func104 rfl rfl rfl ?_
  refine den_loop (σ := Nat) (fun i => [(0, p.v), (1, .func (.func 76) #[] #[.pointer (some S)]), (4, zi 0), (7, zi (p.l.length : Int)), (8, zi (i : Int))])
    (fun m i wl => m + i = p.l.length ∧ i ≤ idx utfP p.l s ∧ New w wl) p.l.length 0 ⟨rfl, rfl, rfl, rfl, rfl, trivial⟩ ⟨rfl, Nat.zero_le _, New.refl w⟩ ?_
  rintro m i wl fr0 ⟨hfuel, hno, nl⟩
  refine if_p (fun hlt => ?_) (fun hge => ?_)
  · replace hlt : (i : Int) < (p.l.length : Int) := hlt
    have hi : i < p.l.length := by omega
    obtain ⟨m, rfl⟩ : ∃ m', m = m' + 1 := ⟨m - 1, by omega⟩
    have cl := c.new nl
    obtain ⟨a, ea, hok, hc⟩ := cl.pl.at_ hi
    rw [Pool.at_lt hi] at hok hc
    refine And.intro (by omega) (And.intro hlt ?_)
    refine some_at ea ?_
    refine loadN_row (vs := entC p.l[i]) (by rw [Int.toNat_natCast]; exact hc) rfl ?_
    refine call_ (text1_ok p base s  p.l[i] S wl cl (nl.cell hS)) ?_
    rintro e w' ⟨rfl, n1⟩
    refine ⟨_, rfl, ?_⟩
    refine if_ (fun hb => ?_) (fun hb => ?_)
    · have e : findI utfP p.l s = (i : Int) := by
        unfold findI
        rw [idx_here hi hno hb, if_pos hi]
      rw [e]
      exact ⟨rfl, nl.trans n1⟩
    · have big := c.big
      have inc : Value.int .i64 (IntKind.i64.wrap ((i : Int) + 1)) = .int .i64 ((i + 1 : Nat) : Int) := by
        rw [wrap_i64 (by omega) (by omega)]
        rfl
      exact ⟨m, i + 1, by omega, ⟨rfl, rfl, rfl, rfl, inc, trivial⟩, by omega, idx_step hi hno hb, nl.trans n1⟩
  · replace hge : ¬ (i : Int) < (p.l.length : Int) := hge
    have e : findI utfP p.l s = -1 := by
      unfold findI
      rw [if_neg (by omega)]
    rw [e]
    exact ⟨rfl, nl⟩
theorem index_class (p : Po) (base : Nat) (s : List UInt8) (X Y : Addr) (h g : Nat) (v : Value) (t : WT) (hp : Nat) (w : World) (c : Cx w base p) (hX : w.cell? X = some (.pointer (some ⟨h, 0, none⟩))) (hY : w.cell? Y = some (strV s)) (hH : w.heap[h]? = some (.cells #[.pointer (some ⟨g, 0, none⟩), p.v, .bool t.2] 82 (0, 0))) (hin : ∀ (i : Nat) (hi : i < p.l.length), p.l[i].tag = 7 → 0 ≤ p.l[i].a ∧ p.l[i].a < (p.l.length : Int)) :
    Calls Tryd.prog 104 #[p.v, .func (.func 75) #[] #[.pointer (some X), .pointer (some Y)]] w fun e w' => e = .returned (zi (findI (clsP p.l) p.l s)) ∧ New w w' := by
  refine enter ok Tryd.func104 rfl rfl rfl ?_
  refine den_loop (σ := Nat) (fun i => [(0, p.v), (1, .func (.func 75) #[] #[.pointer (some X), .pointer (some Y)]), (4, zi 0), (7, zi (p.l.length : Int)), (8, zi (i : Int))])
    (fun m i wl => m + i = p.l.length ∧ i ≤ idx (clsP p.l) p.l s ∧ New w wl) p.l.length 0 ⟨rfl, rfl, rfl, rfl, rfl, trivial⟩ ⟨rfl, Nat.zero_le _, New.refl w⟩ ?_
  rintro m i wl fr0 ⟨hfuel, hno, nl⟩
  refine if_p (fun hlt => ?_) (fun hge => ?_)
  · replace hlt : (i : Int) < (p.l.length : Int) := hlt
    have hi : i < p.l.length := by omega
    obtain ⟨m, rfl⟩ : ∃ m', m = m' + 1 := ⟨m - 1, by omega⟩
    have cl := c.new nl
    obtain ⟨a, ea, hok, hc⟩ := cl.pl.at_ hi
    rw [Pool.at_lt hi] at hok hc
    refine And.intro (by omega) (And.intro hlt ?_)
    refine some_at ea ?_
    refine loadN_row (vs := entC p.l[i]) (by rw [Int.toNat_natCast]; exact hc) rfl ?_
    refine call_ (class1_ok p base s X Y h g v t hp p.l[i]  wl cl (nl.cell hX) (nl.cell hY) (nl.blk hH) (fun h7 => hin i hi h7)) ?_
    rintro e w' ⟨rfl, n1⟩
    refine ⟨_, rfl, ?_⟩
    refine if_ (fun hb => ?_) (fun hb => ?_)
    · have e : findI (clsP p.l) p.l s = (i : Int) := by
        unfold findI
        rw [idx_here hi hno hb, if_pos hi]
      rw [e]
      exact ⟨rfl, nl.trans n1⟩
    · have big := c.big
      have inc : Value.int .i64 (IntKind.i64.wrap ((i : Int) + 1)) = .int .i64 ((i + 1 : Nat) : Int) := by
        rw [wrap_i64 (by omega) (by omega)]
        rfl
      exact ⟨m, i + 1, by omega, ⟨rfl, rfl, rfl, rfl, inc, trivial⟩, by omega, idx_step hi hno hb, nl.trans n1⟩
  · replace hge : ¬ (i : Int) < (p.l.length : Int) := hge
    have e : findI (clsP p.l) p.l s = -1 := by
      unfold findI
      rw [if_neg (by omega)]
    rw [e]
    exact ⟨rfl, nl⟩
theorem number_text (p : Po) (base : Nat) (h g : Nat) (v : Value) (t : WT) (s : List UInt8) (S : Addr) (w : World) (c : Wi w base p h g v t) (hS : w.cell? S = some (strV s)) (hm : t.1.length ≤ 1000000000) :
    Calls Tryd.prog 74 #[.pointer (some ⟨h, 0, none⟩), .func (.func 76) #[] #[.pointer (some S)]] w fun e w' => e = .returned (.tuple #[]) ∧ ∃ v', Ki w base p h g v w' v' (noteU (t.1, t.2 || !decide (0 < findI utfP p.l s)) 2 [atN utfP p.l s]) := by
  refine enter ok Tryd.func74 rfl rfl rfl ?_
  obtain ⟨k, hk⟩ : ∃ k, k = findI utfP p.l s := ⟨_, rfl⟩
  have hat : atN utfP p.l s = if k < 0 then 0 else k := by rw [hk]; rfl
  rw [hat, ← hk]
  refine seq_cut (σ := Unit) (fun _ => [(0, .pointer (some ⟨h, 0, none⟩)), (4, zi k)]) (fun _ w' => New w w') ?_ ?_
  rotate_left
  · intro K hK
    refine Exists.intro p.A (Exists.intro p.l.length (Exists.intro p.c (And.intro (cellB c.blk rfl) ?_)))
    refine call_ (index_text p base s S w c.cx hS) ?_
    rintro e w1 ⟨rfl, n1⟩
    refine ⟨_, rfl, ?_⟩
    rw [← hk]
    exact hK () _ _ ⟨rfl, rfl, trivial⟩ n1
  rintro _ w1 fr1 n1
  have c1 := c.new n1
  refine seq_cut (σ := Unit) (fun _ => [(0, .pointer (some ⟨h, 0, none⟩)), (4, zi k)]) (fun _ w' => Ki w base p h g v w' v (t.1, t.2 || !decide (0 < k))) ?_ ?_
  rotate_left
  · intro K hK
    refine call_ (must_ok base p h g v t (decide (0 < k)) w1 c1) ?_
    rintro e w2 ⟨rfl, k2⟩
    refine ⟨_, rfl, ?_⟩
    exact hK () _ _ ⟨rfl, rfl, trivial⟩ (((Ki.refl c).new n1).then k2)
  rintro _ w2 fr2 k2
  refine call_ (two1_ok base p h g v _ [if k < 0 then 0 else k] 1 w2 k2.wi rfl (by simp; omega)) ?_
  rintro e w3 ⟨rfl, v3, k3⟩
  refine ⟨_, rfl, ?_⟩
  exact ⟨rfl, v3, k2.then k3⟩
theorem class_in {l : List Ent} (hO : OkPool l) (i : Nat) (hi : i < l.length) (h7 : l[i].tag = 7) : 0 ≤ l[i].a ∧ l[i].a < (l.length : Int) := by
  obtain ⟨_, hf⟩ := Pool.tag_right hO.1 hi (by rw [Pool.at_lt hi, h7]; decide)
  have := Pool.demand_class (Pool.fits_demand hf) (by rw [Pool.at_lt hi]; exact h7)
  rw [Pool.at_lt hi] at this
  obtain ⟨k, h1, h2, _⟩ := Pool.tag_in (by decide) this
  omega
theorem number_class (p : Po) (base : Nat) (h g : Nat) (v : Value) (t : WT) (s : List UInt8) (X Y : Addr) (w : World) (c : Wi w base p h g v t) (hX : w.cell? X = some (.pointer (some ⟨h, 0, none⟩))) (hY : w.cell? Y = some (strV s)) (hO : OkPool p.l) (hm : t.1.length ≤ 1000000000) :
    Calls Tryd.prog 74 #[.pointer (some ⟨h, 0, none⟩), .func (.func 75) #[] #[.pointer (some X), .pointer (some Y)]] w fun e w' => e = .returned (.tuple #[]) ∧ ∃ v', Ki w base p h g v w' v' (noteU (t.1, t.2 || !decide (0 < findI (clsP p.l) p.l s)) 2 [atN (clsP p.l) p.l s]) := by
  refine enter ok Tryd.func74 rfl rfl rfl ?_
  obtain ⟨k, hk⟩ : ∃ k, k = findI (clsP p.l) p.l s := ⟨_, rfl⟩
  have hat : atN (clsP p.l) p.l s = if k < 0 then 0 else k := by rw [hk]; rfl
  rw [hat, ← hk]
  refine seq_cut (σ := Unit) (fun _ => [(0, .pointer (some ⟨h, 0, none⟩)), (4, zi k)]) (fun _ w' => New w w') ?_ ?_
  rotate_left
  · intro K hK
    refine Exists.intro p.A (Exists.intro p.l.length (Exists.intro p.c (And.intro (cellB c.blk rfl) ?_)))
    refine call_ (index_class p base s X Y h g v t 0 w c.cx hX hY c.blk (class_in hO)) ?_
    rintro e w1 ⟨rfl, n1⟩
    refine ⟨_, rfl, ?_⟩
    rw [← hk]
    exact hK () _ _ ⟨rfl, rfl, trivial⟩ n1
  rintro _ w1 fr1 n1
  have c1 := c.new n1
  refine seq_cut (σ := Unit) (fun _ => [(0, .pointer (some ⟨h, 0, none⟩)), (4, zi k)]) (fun _ w' => Ki w base p h g v w' v (t.1, t.2 || !decide (0 < k))) ?_ ?_
  rotate_left
  · intro K hK
    refine call_ (must_ok base p h g v t (decide (0 < k)) w1 c1) ?_
    rintro e w2 ⟨rfl, k2⟩
    refine ⟨_, rfl, ?_⟩
    exact hK () _ _ ⟨rfl, rfl, trivial⟩ (((Ki.refl c).new n1).then k2)
  rintro _ w2 fr2 k2
  refine call_ (two1_ok base p h g v _ [if k < 0 then 0 else k] 1 w2 k2.wi rfl (by simp; omega)) ?_
  rintro e w3 ⟨rfl, v3, k3⟩
  refine ⟨_, rfl, ?_⟩
  exact ⟨rfl, v3, k2.then k3⟩
theorem wtext_ok (p : Po) (base : Nat) (h g : Nat) (v : Value) (t : WT) (s : List UInt8) (w : World) (c : Wi w base p h g v t) (hm : t.1.length ≤ 1000000000) :
    Calls Tryd.prog 42 #[.pointer (some ⟨h, 0, none⟩), strV s] w fun e w' => e = .returned (.tuple #[]) ∧ ∃ v' t', Ki w base p h g v w' v' t' ∧ Wri (utfT p.l) 2 t s t' := by
  refine enter ok Tryd.func42 rfl rfl rfl ?_
  refine seq_cut (σ := Unit) (fun _ => [(0, .pointer (some ⟨h, 0, none⟩)), (3, .pointer (some ⟨w.heap.size, 0, none⟩))]) (fun _ w' => New w w' ∧ w'.heap[w.heap.size]? = some (.cells #[strV s] 9 (0, 0))) ?_ ?_
  rotate_left
  · intro K hK
    exact hK () _ _ ⟨rfl, rfl, trivial⟩ ⟨New.alloc w _, heap_alloc_new w (.cells #[strV s] 9)⟩
  rintro _ w1 fr1 ⟨n1, hS⟩
  refine call_ (number_text p base h g v t s ⟨w.heap.size, 0, none⟩ w1 (c.new n1) (cell0 hS) hm) ?_
  rintro e w2 ⟨rfl, v2, k2⟩
  refine ⟨_, rfl, ?_⟩
  exact ⟨rfl, v2, _, ((Ki.refl c).new n1).then k2, Wri.ref rfl rfl⟩
theorem wclass_ok (p : Po) (base : Nat) (h g : Nat) (v : Value) (t : WT) (s : List UInt8) (w : World) (c : Wi w base p h g v t) (hO : OkPool p.l) (hm : t.1.length ≤ 1000000000) :
    Calls Tryd.prog 38 #[.pointer (some ⟨h, 0, none⟩), strV s] w fun e w' => e = .returned (.tuple #[]) ∧ ∃ v' t', Ki w base p h g v w' v' t' ∧ Wri (clsT p.l) 2 t s t' := by
  refine enter ok Tryd.func38 rfl rfl rfl ?_
  refine seq_cut (σ := Nat × Nat) (fun x => [(2, .pointer (some ⟨x.1, 0, none⟩)), (3, .pointer (some ⟨x.2, 0, none⟩))]) (fun x w' => New w w' ∧ w'.heap[x.1]? = some (.cells #[.pointer (some ⟨h, 0, none⟩)] 78 (0, 0)) ∧ w'.heap[x.2]? = some (.cells #[strV s] 9 (0, 0))) ?_ ?_
  rotate_left
  · intro K hK
    have n1 := New.alloc w (.cells #[.pointer (some ⟨h, 0, none⟩)] 78)
    have h1 := heap_alloc_new w (.cells #[.pointer (some ⟨h, 0, none⟩)] 78)
    have n2 := New.alloc (w.alloc (.cells #[.pointer (some ⟨h, 0, none⟩)] 78)) (.cells #[strV s] 9)
    exact hK (w.heap.size, _) _ _ ⟨rfl, rfl, trivial⟩ ⟨n1.trans n2, n2.blk h1, heap_alloc_new _ (.cells #[strV s] 9)⟩
  rintro ⟨x1, x2⟩ w1 fr1 ⟨n1, h1, h2⟩
  dsimp only at h1 h2
  refine Exists.intro (some ⟨h, 0, none⟩) (And.intro (cell0 h1) ?_)
  refine call_ (number_class p base h g v t s ⟨x1, 0, none⟩ ⟨x2, 0, none⟩ w1 (c.new n1) (cell0 h1) (cell0 h2) hO hm) ?_
  rintro e w2 ⟨rfl, v2, k2⟩
  refine ⟨_, rfl, ?_⟩
  exact ⟨rfl, v2, _, ((Ki.refl c).new n1).then k2, Wri.ref rfl rfl⟩

end Go.Proofs.YtdcaafldnbcdkaaDoor.Class

/-! ### KWrite2 -/
namespace Go.Proofs.YtdcaafldnbcdkaaDoor.Class
open Go Go.Proofs.YtdcaafldnbcdkaaDoor Go.Proofs.YtdcaafldnbcdkaaDoor.Eng Go.Proofs Go.Proofs.YtdcaafldnbcdkaaDoor.Word Go.Proofs.YtdcaafldnbcdkaaDoor.Fmt
open Go.Proofs.YtdcaafldnbcdkaaDoor.Pool (Ent at_ poolF strV entC entV EntOk Pl OkPool both own_low tagAt)
set_option maxRecDepth 10000

theorem Ki.lrep {α : Type} {R : RepT α} {sz : Nat} {w w' : World} {base h g : Nat} {p : Po} {v v' vl : Value} {t : WT} {xs : List α} (k : Ki w base p h g v w' v' t) (hR : RepOk R sz) (hsz : 0 < sz) (hl : LRep R w (WH h g v) vl xs) : LRep R w' (WH h g v') vl xs := by
  have h1 := LRep.weak (S' := fun b => WH h g v b ∨ w.heap.size ≤ b) hR hl fun b hb e => e.resolve_right (by omega)
  refine LRep.weak hR (LRep.mod hR hsz h1 (k.mod.mono fun _ _ e => .inl e)) fun b _ e => ?_
  rcases e with (e | e) | e
  · exact .inl (.inl (.inl e))
  · rcases k.st b e.symm with e1 | e1
    · exact .inl (.inl (.inr e1.symm))
    · exact .inr e1
  · exact .inl (.inr e)
theorem Ki.rep {α : Type} {R : RepT α} {sz : Nat} {w w' : World} {base h g : Nat} {p : Po} {v v' : Value} {t : WT} {cs : List Value} {x : α} (k : Ki w base p h g v w' v' t) (hR : RepOk R sz) (hl : R w (WH h g v) cs x) : R w' (WH h g v') cs x := by
  have h1 := hR.weak (S' := fun b => WH h g v b ∨ w.heap.size ≤ b) hl fun b hb e => e.resolve_right (by omega)
  refine hR.weak (hR.mod h1 (k.mod.mono fun _ _ e => .inl e)) fun b _ e => ?_
  rcases e with (e | e) | e
  · exact .inl (.inl (.inl e))
  · rcases k.st b e.symm with e1 | e1
    · exact .inl (.inl (.inr e1.symm))
    · exact .inr e1
  · exact .inl (.inr e)
/-- What is done elsewhere, in new blocks. -/
theorem Ki.low {S : Nat → Prop} {w w1 w2 : World} {base h g : Nat} {p : Po} {v v' : Value} {t : WT} (k : Ki w base p h g v w1 v' t) (m : Mod S w1 w2) (hS : ∀ b, S b → w.heap.size ≤ b ∧ ¬ WH h g v' b) (hw : base ≤ w.heap.size) : Ki w base p h g v w2 v' t := by
  refine ⟨⟨m.blk k.wi.blk fun e => (hS _ e).2 (.inr rfl), wr_mod k.wi.wr m (fun e => (hS _ e).2 (.inl (.inl rfl))) (fun b hb e => (hS _ e).2 (.inl (.inr hb.symm))), k.wi.ne, k.wi.off, k.wi.bh, k.wi.bg, k.wi.cx.mod m fun b _ e => Nat.le_trans hw (hS b e).1⟩, Mod.trans k.mod m fun b hb e => ?_, k.st⟩
  have := (hS b e).1
  omega
theorem Cx.kind {w : World} {base : Nat} {p : Po} {k : Int} (c : Cx w base p) (h0 : 0 ≤ k) (h5 : k < 5) : w.cell? ((⟨0, 0, none⟩ : Addr).add (k.toNat * 1)) = some (zi (kindNo k)) := by
  have := c.tbl k h0 h5
  rw [Nat.mul_one]
  have e : ((⟨0, 0, none⟩ : Addr).add k.toNat) = ⟨0, k.toNat, none⟩ := by
    simp [Addr.add]
    omega
  rw [e]
  exact this
theorem incN {i n : Nat} (h : i < n) (hn : n ≤ 140737488355328) : Value.int .i64 (IntKind.i64.wrap ((i : Int) + 1)) = .int .i64 ((i + 1 : Nat) : Int) := by
  rw [wrap_i64 (by omega) (by omega)]
  rfl
def okTy (x : Ty) : Prop := 0 ≤ x.kind ∧ x.kind < 5 ∧ (x.kind = 4 ∨ x.name = [])
theorem okTy_of {l : List Ent} {x : Ty} (h : (tyT l).ok x) : okTy x := by
  obtain ⟨_, ⟨hk, _⟩, hn⟩ := h
  refine ⟨hk.1, hk.2, ?_⟩
  by_cases h4 : x.kind = 4
  · exact .inl h4
  · right
    dsimp only at hn
    rw [if_neg h4] at hn
    exact hn
theorem nil_str (s : List UInt8) : decide ((⟨s.toArray⟩ : ByteArray) = ⟨#[]⟩) = decide (s = []) := Base.same_iff s []
theorem kind_ok (p : Po) (base : Nat) (h g : Nat) (v : Value) (t : WT) (cs : List Value) (x : Ty) (w : World) (c : Wi w base p h g v t) (hO : OkPool p.l) (hx : tyR w (WH h g v) cs x) (hm : t.1.length + cTy x ≤ 1000000000) :
    Calls Tryd.prog 109 #[.pointer (some ⟨h, 0, none⟩), .agg cs.toArray] w fun e w' => e = .returned (.tuple #[]) ∧ ∃ v' t', Ki w base p h g v w' v' t' ∧ Wri (tyT p.l) (cTy x) t x t' := by
  obtain rfl := hx
  unfold cTy at hm
  refine enter ok Tryd.func109 rfl rfl rfl ?_
  refine seq_cut (σ := Unit) (fun _ => [(0, .pointer (some ⟨h, 0, none⟩)), (3, .pointer (some ⟨w.heap.size, 0, none⟩))]) (fun _ w' => New w w' ∧ w'.heap[w.heap.size]? = some (.cells #[zi x.kind, strV x.name] 51 (0, 0))) ?_ ?_
  rotate_left
  · intro K hK
    exact hK () _ _ ⟨rfl, rfl, trivial⟩ ⟨New.alloc w _, heap_alloc_new w (.cells #[zi x.kind, strV x.name] 51)⟩
  rintro _ w1 fr1 ⟨n1, hX⟩
  have c1 := c.new n1
  have hXl : w.heap.size < w1.heap.size := (Array.getElem?_eq_some_iff.1 hX).1
  have hXn := c.hi (Nat.le_refl w.heap.size)
  refine seq_cut (σ := Bool) (fun _ => [(0, .pointer (some ⟨h, 0, none⟩)), (3, .pointer (some ⟨w.heap.size, 0, none⟩))]) (fun b w' => Ki w1 base p h g v w' v (t.1, t.2 || !b) ∧ (b = true ↔ okTy x)) ?_ ?_
  rotate_left
  · intro K hK
    have fin : ∀ b : Bool, (b = true ↔ okTy x) → ∀ K' : Value → World → Prop, (∀ w', Ki w1 base p h g v w' v (t.1, t.2 || !b) → K' (.tuple #[]) w') → callQ Tryd.prog 41 [.pointer (some ⟨h, 0, none⟩), .bool b] w1 K' := fun b hb K' hK' => by
      refine call_ (must_ok base p h g v t b w1 c1) ?_
      rintro e w2 ⟨rfl, k2⟩
      exact ⟨_, rfl, hK' w2 k2⟩
    refine Exists.intro x.kind (And.intro (cellB hX rfl) ?_)
    refine if_p (fun h0 => ?_) (fun h0 => ?_)
    · replace h0 : (0 : Int) ≤ x.kind := h0
      refine Exists.intro x.kind (And.intro (cellB hX rfl) ?_)
      refine if_p (fun h5 => ?_) (fun h5 => ?_)
      · replace h5 : x.kind < 5 := h5
        refine Exists.intro x.kind (And.intro (cellB hX rfl) ?_)
        refine if_p (fun h4 => ?_) (fun h4 => ?_)
        · replace h4 : x.kind = 4 := h4
          exact fin true ⟨fun _ => ⟨h0, h5, .inl h4⟩, fun _ => rfl⟩ _ fun w' k' => hK true _ _ ⟨rfl, rfl, trivial⟩ ⟨k', ⟨fun _ => ⟨h0, h5, .inl h4⟩, fun _ => rfl⟩⟩
        · replace h4 : ¬ x.kind = 4 := h4
          refine Exists.intro (⟨x.name.toArray⟩ : ByteArray) (And.intro (cellB hX rfl) ?_)
          have hb : decide ((⟨x.name.toArray⟩ : ByteArray) = ⟨#[]⟩) = true ↔ okTy x := by
            rw [nil_str, decide_eq_true_eq]
            exact ⟨fun e => ⟨h0, h5, .inr e⟩, fun e => e.2.2.resolve_left h4⟩
          exact fin _ hb _ fun w' k' => hK _ _ _ ⟨rfl, rfl, trivial⟩ ⟨k', hb⟩
      · replace h5 : ¬ x.kind < 5 := h5
        have hb : false = true ↔ okTy x := ⟨fun e => (by cases e), fun e => absurd e.2.1 h5⟩
        exact fin false hb _ fun w' k' => hK false _ _ ⟨rfl, rfl, trivial⟩ ⟨k', hb⟩
    · replace h0 : ¬ (0 : Int) ≤ x.kind := h0
      have hb : false = true ↔ okTy x := ⟨fun e => (by cases e), fun e => absurd e.1 h0⟩
      exact fin false hb _ fun w' k' => hK false _ _ ⟨rfl, rfl, trivial⟩ ⟨k', hb⟩
  rintro b w2 fr2 ⟨k2, hb⟩
  have hX2 := k2.blk hX hXn
  refine seq_cut (σ := Unit) (fun _ => [(0, .pointer (some ⟨h, 0, none⟩)), (3, .pointer (some ⟨w.heap.size, 0, none⟩))]) (fun _ w' => w' = w2 ∧ (t.2 || !b) = false) ?_ ?_
  rotate_left
  · intro K hK
    refine Exists.intro (t.2 || !b) (And.intro (cellB k2.wi.blk rfl) ?_)
    refine if_ (fun hbad => ?_) (fun hbad => ?_)
    · refine ⟨rfl, v, _, ((Ki.refl c).new n1).then k2, ?_⟩
      exact Wri.pre (b := b) (Wri.bad hbad _ _) fun o => hb.2 (okTy_of o)
    · exact hK () _ _ ⟨rfl, rfl, trivial⟩ ⟨rfl, hbad⟩
  rintro _ wy fry ⟨hwy, hgood⟩
  obtain rfl := hwy.symm
  have hP : okTy x := hb.1 (by
    rw [Bool.or_eq_false_iff] at hgood
    have := hgood.2
    revert this
    cases b <;> decide)
  obtain ⟨h0, h5, hn⟩ := hP
  have hg1 := kindNo_good h0 h5
  refine seq_cut (σ := Value) (fun _ => [(0, .pointer (some ⟨h, 0, none⟩)), (3, .pointer (some ⟨w.heap.size, 0, none⟩))]) (fun v' w' => Ki w2 base p h g v w' v' (noteU (t.1, t.2 || !b) 1 [kindNo x.kind]) ∧ w'.heap[w.heap.size]? = some (.cells #[zi x.kind, strV x.name] 51 (0, 0))) ?_ ?_
  rotate_left
  · intro K hK
    refine draw_ (w := w2) ok (.q 0 (.q 1 (.q 2 (.q 3 (.q 4 (.q 5 (.q 6 (.q 7 (.e 8 (.e 9 .done)))))))))) [9] (New w2) (by kernel_rfl) (by kernel_rfl) (by kernel_rfl) (by kernel_rfl) (by kernel_rfl) (New.drew _) ?_
    refine Exists.intro (some ⟨g, 0, none⟩) (And.intro (fun w'' hw => cellB (hw.blk k2.wi.blk) rfl) ?_)
    refine Exists.intro x.kind (And.intro (fun w'' hw => cellB (hw.blk hX2) rfl) ?_)
    refine And.intro h0 (And.intro h5 ?_)
    refine Exists.intro (kindNo x.kind) (And.intro (fun w'' hw => hw.cell (k2.wi.cx.kind h0 h5)) ?_)
    have nd := New.drew w2
    refine eff_build (xs := [zi (kindNo x.kind)]) rfl rfl rfl rfl rfl rfl rfl rfl rfl ?_
    refine Exists.intro (New w2) ?_
    refine And.intro (fun _ h => h) ?_
    refine And.intro (nd.trans (New.alloc _ _)) ?_
    refine call_ (WUn base p h g v (t.1, t.2 || !b) 1 (kindNo x.kind) w2.drew (k2.wi.new nd) (by dsimp only; omega)) ?_
    rintro e w3 ⟨rfl, v3, k3⟩
    refine ⟨_, rfl, ?_⟩
    have kk := ((Ki.refl k2.wi).new nd).then k3
    rw [← noteU_good hg1] at kk
    exact hK v3 _ _ ⟨rfl, rfl, trivial⟩ ⟨kk, kk.blk hX2 (k2.hid hXl hXn)⟩
  rintro v3 w3 fr3 ⟨k3, hX3⟩
  have kk3 := (((Ki.refl c).new n1).then k2).then k3
  have w1k : Wri kindT 1 (t.1, t.2 || !b) x.kind (noteU (t.1, t.2 || !b) 1 [kindNo x.kind]) := Wri.by (p := true) Wri.n1 (by simp) (by simp only [true_iff]; exact ⟨h0, h5⟩)
  have hl3 := w1k.1
  have pre : ∀ {t' : WT} {d : Nat}, d ≤ 3 → Wri (dseqT kindT fun k => if k = 4 then clsT p.l else nilT) d (t.1, t.2 || !b) (x.kind, x.name) t' → Wri (tyT p.l) (cTy x) t x t' := fun hd q =>
    Wri.pre (b := b) (Wri.by_ (Wri.le q hd)) fun o => hb.2 (okTy_of o)
  refine Exists.intro x.kind (And.intro (cellB hX3 rfl) ?_)
  refine if_p (fun h4 => ?_) (fun h4 => ?_)
  · replace h4 : x.kind = 4 := h4
    refine Exists.intro (⟨x.name.toArray⟩ : ByteArray) (And.intro (cellB hX3 rfl) ?_)
    refine call_ (wclass_ok p base h g v3 _ x.name w3 k3.wi hO (by dsimp only at hl3; omega)) ?_
    rintro e w4 ⟨rfl, v4, t4, k4, wr4⟩
    refine ⟨_, rfl, ?_⟩
    exact ⟨rfl, v4, t4, kk3.then k4, pre (d := 1 + 2) (by omega) (Wri.dseq w1k (by rw [if_pos h4]; exact wr4))⟩
  · replace h4 : ¬ x.kind = 4 := h4
    exact ⟨rfl, v3, _, kk3, pre (d := 1 + 0) (by omega) (Wri.dseq w1k (by rw [if_neg h4]; exact Wri.nil (hn.resolve_left h4)))⟩
theorem list_ty (p : Po) (base : Nat) (h g : Nat) (v : Value) (t : WT) (vl : Value) (xs : List Ty)   (w : World) (c : Wi w base p h g v t) (hO : OkPool p.l) (hl : LRep tyR w (WH h g v) vl xs)   (hm : t.1.length + (2 + csum cTy xs) ≤ 1000000000) :
    Calls Tryd.prog 107 #[.pointer (some ⟨h, 0, none⟩), vl, zi 64, .func (.func 109) #[.pointer (some ⟨h, 0, none⟩)] #[]] w fun e w' => e = .returned (.tuple #[]) ∧ ∃ v' t', Ki w base p h g v w' v' t' ∧ Wri (stkT p.l) (2 + csum cTy xs) t xs t' := by
  obtain ⟨Al, cl, rfl, h43, _⟩ := hl.get tyOk (by decide)
  refine enter ok Tryd.func107 rfl rfl rfl ?_
  refine seq_cut (σ := Unit) (fun _ => [(0, .pointer (some ⟨h, 0, none⟩)), (1, .slice Al xs.length cl), (3, .func (.func 109) #[.pointer (some ⟨h, 0, none⟩)] #[])]) (fun _ w' => Ki w base p h g v w' v (t.1, t.2 || !decide (xs.length ≤ 64))) ?_ ?_
  rotate_left
  · intro K hK
    refine call_ (must_ok base p h g v t (decide ((xs.length : Int) ≤ 64)) w c) ?_
    rintro e w1 ⟨rfl, k1⟩
    refine ⟨_, rfl, ?_⟩
    have e1 : decide ((xs.length : Int) ≤ 64) = decide (xs.length ≤ 64) := decide_eq_decide.2 (by omega)
    rw [e1] at k1
    exact hK () _ _ ⟨rfl, rfl, rfl, trivial⟩ k1
  rintro _ w1 fr1 k1
  refine seq_cut (σ := Value × WT) (fun _ => [(0, .pointer (some ⟨h, 0, none⟩)), (1, .slice Al xs.length cl), (3, .func (.func 109) #[.pointer (some ⟨h, 0, none⟩)] #[])]) (fun s w' => Ki w base p h g v w' s.1 s.2 ∧ Wri n2 2 (t.1, t.2 || !decide (xs.length ≤ 64)) (xs.length : Int) s.2) ?_ ?_
  rotate_left
  · intro K hK
    refine Exists.intro (t.2 || !decide (xs.length ≤ 64)) (And.intro (cellB k1.wi.blk rfl) ?_)
    cases hbad : (t.2 || !decide (xs.length ≤ 64)) with
    | true =>
      rw [hbad] at k1 hK
      exact hK (v, (t.1, true)) _ _ ⟨rfl, rfl, rfl, trivial⟩ ⟨k1, Wri.bad rfl _ _⟩
    | false =>
      rw [hbad] at k1 hK
      refine call_ (two1_ok base p h g v (t.1, false) [(xs.length : Int)] 1 w1 k1.wi rfl (by simp; omega)) ?_
      rintro e w2 ⟨rfl, v2, k2⟩
      refine ⟨_, rfl, ?_⟩
      exact hK (v2, _) _ _ ⟨rfl, rfl, rfl, trivial⟩ ⟨k1.then k2, Wri.n2⟩
  rintro ⟨v2, t2⟩ w2 fr2 ⟨k2, wr2⟩
  dsimp only at k2 wr2
  refine seq_cut (σ := Unit) (fun _ => [(0, .pointer (some ⟨h, 0, none⟩)), (3, .func (.func 109) #[.pointer (some ⟨h, 0, none⟩)] #[]), (26, .slice Al xs.length cl), (27, zi (xs.length : Int)), (28, zi 0)]) (fun _ w' => w' = w2) ?_ ?_
  rotate_left
  · intro K hK
    exact hK () _ _ ⟨rfl, rfl, rfl, rfl, rfl, trivial⟩ rfl
  rintro _ wy fry hwy
  obtain rfl := hwy.symm
  refine den_loop (σ := Nat × Value × WT) (fun s => [(0, .pointer (some ⟨h, 0, none⟩)), (3, .func (.func 109) #[.pointer (some ⟨h, 0, none⟩)] #[]), (26, .slice Al xs.length cl), (27, zi (xs.length : Int)), (28, zi (s.1 : Int))])
    (fun m s wl => m + s.1 = xs.length ∧ Ki w base p h g v wl s.2.1 s.2.2 ∧ WLst (tyT p.l) 64 cTy t xs s.1 s.2.2) xs.length (0, v2, t2) ⟨rfl, rfl, rfl, rfl, rfl, trivial⟩ ⟨rfl, k2, WLst.start (by decide) wr2⟩ ?_
  rintro m ⟨i, v3, t3⟩ wl frl ⟨hfuel, kl, hw⟩
  dsimp only at hfuel kl hw
  refine if_p (fun hlt => ?_) (fun hge => ?_)
  · replace hlt : (i : Int) < (xs.length : Int) := hlt
    have hi : i < xs.length := by omega
    obtain ⟨m, rfl⟩ : ∃ m', m = m' + 1 := ⟨m - 1, by omega⟩
    have inc := incN hi h43
    obtain ⟨Al', cl', he, _, gx⟩ := (kl.lrep tyOk (by decide) hl).get tyOk (by decide)
    cases he
    obtain ⟨a, cs, ea, hx, hc⟩ := gx i hi
    have hcs : csum cTy (xs.take i) + cTy xs[i] ≤ csum cTy xs := by
      have h1 := csum_le cTy xs (i + 1)
      rw [List.take_succ_eq_append_getElem hi, csum_snoc] at h1
      exact h1
    have hw1 := hw.1
    have hmem : xs[i] ∈ xs := List.getElem_mem hi
    obtain ⟨y, hy⟩ : ∃ y, y = xs[i] := ⟨_, rfl⟩
    rw [← hy] at hx hcs hmem
    have hx0 := hx
    obtain rfl := hx
    refine And.intro (by omega) (And.intro hlt ?_)
    refine some_at ea ?_
    refine loadN_row (vs := [zi y.kind, strV y.name]) (fun j u hu => by rw [Int.toNat_natCast]; exact hc j u hu) rfl ?_
    refine And.intro rfl ?_
    refine storeNew (vs := [zi y.kind, strV y.name]) (arr := #[zi 0, .string ⟨#[]⟩]) rfl (tyOk.one hx0) ?_
    intro w5 hb5 n5 s5
    have k5 := kl.new n5
    refine Exists.intro t3.2 (And.intro (cellB k5.wi.blk rfl) ?_)
    refine if_ (fun hbad => ?_) (fun hbad => ?_)
    · exact ⟨rfl, v3, t3, k5, hw.stop hbad⟩
    refine skip_ (thenF_ ?_)
    refine loadN_row (vs := [zi y.kind, strV y.name]) (rowB hb5) rfl ?_
    refine call_ (kind_ok p base h g v3 t3 [zi y.kind, strV y.name] y w5 k5.wi hO (tyOk.mod hx0 n5.mod) (by omega)) ?_
    rintro e w6 ⟨rfl, v6, t6, k6, wr6⟩
    refine ⟨_, rfl, ?_⟩
    exact ⟨m, (i + 1, v6, t6), by omega, ⟨rfl, rfl, rfl, rfl, inc, trivial⟩, by dsimp only; omega, k5.then k6, hw.step hi (by rw [← hy]; exact wr6)⟩
  · replace hge : ¬ (i : Int) < (xs.length : Int) := hge
    obtain rfl : i = xs.length := by omega
    exact ⟨rfl, v3, t3, kl, hw.done⟩

theorem tyEq (x y : Ty) : decide (x = y) = (decide (x.kind = y.kind) && (decide ((⟨x.name.toArray⟩ : ByteArray) = (⟨y.name.toArray⟩ : ByteArray)) && true)) := by
  rw [Base.same_iff, Bool.and_true, ← Bool.decide_and]
  refine decide_eq_decide.2 ⟨fun h => by rw [h]; exact ⟨rfl, rfl⟩, fun h => ?_⟩
  cases x; cases y
  simp only at h
  rw [h.1, h.2]
theorem ty_eql {o : Oper} {x y : Operand} {u : TypeId} {fr : Fr} {a b : Ty} {w : World} {K : Fr → World → Prop} (ho : o.op = .binOp .eql 51 x y u) (hx : ev fr x = .agg #[zi a.kind, strV a.name]) (hy : ev fr y = .agg #[zi b.kind, strV b.name]) (k : K (putF fr o.dst (.bool (decide (a = b)))) w) : raw Tryd.prog o fr w K :=
  raw_value (agg_cmp ok ho rfl rfl (by kernel_rfl) (by kernel_rfl) hx hy rfl (decide (a = b)) (.inl ⟨rfl, tyEq a b⟩) w) k
theorem locals_ok (p : Po) (base : Nat) (h g : Nat) (v : Value) (t : WT) (vl : Value) (xs : List Ty) (w : World) (c : Wi w base p h g v t) (hl : LRep tyR w (WH h g v) vl xs) (hn : xs.length ≤ 1000000000) :
    Calls Tryd.prog 108 #[.pointer (some ⟨h, 0, none⟩), vl] w fun e w' => ∃ u b, e = .returned u ∧ LRep tyR w' (WH h g v) u (locOut false xs) ∧ Ki w base p h g v w' v (t.1, t.2 || !b) ∧ (b = true ↔ xs.length ≤ 64 ∧ locOk false xs) := by
  obtain ⟨Al, cl, rfl, h43, _⟩ := hl.get tyOk (by decide)
  refine enter ok Tryd.func108 rfl rfl rfl ?_
  refine seq_assign ?_
  refine seq_cut (σ := Unit) (fun _ => [(0, .pointer (some ⟨h, 0, none⟩)), (1, .slice Al xs.length cl)]) (fun _ w' => Ki w base p h g v w' v (t.1, t.2 || !decide (xs.length ≤ 64))) ?_ ?_
  rotate_left
  · intro K hK
    refine call_ (must_ok base p h g v t (decide ((xs.length : Int) ≤ 64)) w c) ?_
    rintro e w1 ⟨rfl, k1⟩
    refine ⟨_, rfl, ?_⟩
    have e1 : decide ((xs.length : Int) ≤ 64) = decide (xs.length ≤ 64) := decide_eq_decide.2 (by omega)
    rw [e1] at k1
    exact hK () _ _ ⟨rfl, rfl, trivial⟩ k1
  rintro _ w1 fr1 k1
  refine seq_assign ?_
  have hbase := c.bw
  have hlw := c.lt
  have own0 : ∀ w' : World, w'.ownsRow w.heap.size 51 2 (.slice none 0 0) 0 [] := fun _ => ⟨rfl, .inl ⟨rfl, rfl⟩⟩
  refine seq_cut (σ := (Option Addr × Nat) × List Ty) (fun s => [(5, .slice s.1.1 s.2.length s.1.2)]) (fun s w' => ∃ b, Ki w base p h g v w' v (t.1, t.2 || !b) ∧ s.2 = locOut false xs ∧ (b = true ↔ xs.length ≤ 64 ∧ locOk false xs) ∧ w'.ownsRow w.heap.size 51 2 (.slice s.1.1 s.2.length s.1.2) s.2.length (cellsOf (s.2.map fun y => ([zi y.kind, strV y.name], y)))) ?_ ?_
  rotate_left
  · intro K hK
    refine seq_assign ?_
    refine den_loop (σ := Nat × (Option Addr × Nat) × List Ty × Bool) (fun s => [(0, .pointer (some ⟨h, 0, none⟩)), (1, .slice Al xs.length cl), (5, .slice s.2.1.1 s.2.2.1.length s.2.1.2), (6, zi (s.1 : Int))])
      (fun m s wl => xs.length ≤ m + s.1 ∧ s.1 ≤ xs.length + 1 ∧ Ki w base p h g v wl v (t.1, t.2 || !s.2.2.2) ∧ s.2.2.1 ++ locOut false (xs.drop s.1) = locOut false xs ∧ s.2.2.1.length ≤ s.1 ∧ ((s.2.2.2 = true ∧ locOk false (xs.drop s.1)) ↔ (xs.length ≤ 64 ∧ locOk false xs)) ∧ wl.ownsRow w.heap.size 51 2 (.slice s.2.1.1 s.2.2.1.length s.2.1.2) s.2.2.1.length (cellsOf (s.2.2.1.map fun y => ([zi y.kind, strV y.name], y)))) xs.length
      (0, (none, 0), [], decide (xs.length ≤ 64)) ⟨rfl, rfl, rfl, rfl, trivial⟩ ⟨by dsimp only; omega, by dsimp only; omega, k1, rfl, Nat.le_refl _, by simp, own0 _⟩ ?_
    rintro m ⟨i, ⟨Ao, co⟩, os, b⟩ wl frl ⟨hfuel, hi1, kl, hos, hol, hb, own⟩
    dsimp only at hfuel hi1 kl hos hol hb own
    refine seq_cut (σ := Unit) (fun _ => [(0, .pointer (some ⟨h, 0, none⟩)), (1, .slice Al xs.length cl), (5, .slice Ao os.length co), (6, zi (i : Int))]) (fun _ w' => w' = wl ∧ i < xs.length) ?_ ?_
    rotate_left
    · intro K2 hK2
      refine if_p (fun hlt => ?_) (fun hge => ?_)
      · replace hlt : (i : Int) < (xs.length : Int) := hlt
        exact hK2 () _ _ ⟨rfl, rfl, rfl, rfl, trivial⟩ ⟨rfl, by omega⟩
      · replace hge : ¬ (i : Int) < (xs.length : Int) := hge
        have hd : xs.drop i = [] := List.drop_eq_nil_iff.2 (by omega)
        rw [hd] at hos hb
        refine hK ((Ao, co), os) _ _ ⟨rfl, trivial⟩ ⟨b, kl, ?_, ?_, own⟩
        · rw [← hos]
          exact (List.append_nil os).symm
        · rw [← hb]
          exact ⟨fun e => ⟨e, trivial⟩, fun e => e.1⟩
    rintro _ wy fry ⟨hwy, hi⟩
    obtain rfl := hwy.symm
    have hlt : (i : Int) < (xs.length : Int) := by omega
    obtain ⟨m, rfl⟩ : ∃ m', m = m' + 1 := ⟨m - 1, by omega⟩
    have ed : xs.drop i = xs[i] :: xs.drop (i + 1) := List.drop_eq_getElem_cons hi
    obtain ⟨_, _, he, _, gx⟩ := (kl.lrep tyOk (by decide) hl).get tyOk (by decide)
    cases he
    obtain ⟨a, cs, ea, hx, hc⟩ := gx i hi
    generalize hy : xs[i] = y at hx ed
    obtain rfl := hx
    rw [ed] at hos hb
    -- one more
    refine seq_cut (σ := Nat × (Option Addr × Nat) × Bool) (fun s => [(0, .pointer (some ⟨h, 0, none⟩)), (1, .slice Al xs.length cl), (5, .slice s.2.1.1 (os.length + 1) s.2.1.2), (6, zi (s.1 : Int))]) (fun s w' => Ki w base p h g v w' v (t.1, t.2 || !s.2.2) ∧ w'.ownsRow w.heap.size 51 2 (.slice s.2.1.1 (os.length + 1) s.2.1.2) (os.length + 1) (cellsOf (os.map fun y => ([zi y.kind, strV y.name], y)) ++ [zi y.kind, strV y.name]) ∧ i ≤ s.1 ∧ s.1 ≤ xs.length ∧ locOut (decide (y.kind = 2)) (xs.drop (i + 1)) = locOut false (xs.drop (s.1 + 1)) ∧ ((b = true ∧ locOk (decide (y.kind = 2)) (xs.drop (i + 1))) ↔ (s.2.2 = true ∧ locOk false (xs.drop (s.1 + 1))))) ?_ ?_
    · rintro ⟨j, ⟨A2, c2⟩, b2⟩ w2 fr2 ⟨k2, own2, hij, hjl, ho2, hb2⟩
      dsimp only at k2 own2 hij hjl ho2 hb2
      have hlen : (os ++ [y]).length = os.length + 1 := by simp
      have hinc : Value.int .i64 (IntKind.i64.wrap ((j : Int) + 1)) = .int .i64 ((j + 1 : Nat) : Int) := by
        rw [wrap_i64 (by omega) (by omega)]
        rfl
      refine ⟨m, (j + 1, (A2, c2), os ++ [y], b2), by omega, ⟨rfl, rfl, (show Value.slice A2 (os.length + 1) c2 = .slice A2 (os ++ [y]).length c2 by rw [hlen]), hinc, trivial⟩, by dsimp only; omega, by dsimp only; omega, k2, ?_, by rw [hlen]; dsimp only; omega, ?_, ?_⟩
      · dsimp only
        rw [← ho2, List.append_assoc]
        exact hos
      · dsimp only
        rw [← hb2]
        exact hb
      · dsimp only
        rw [hlen, List.map_append, List.map_cons, List.map_nil, cellsOf_snoc]
        exact own2
    intro K3 hK3
    refine block_ ?_
    refine seq_cut (σ := Option Addr × Nat) (fun s => [(0, .pointer (some ⟨h, 0, none⟩)), (1, .slice Al xs.length cl), (5, .slice s.1 (os.length + 1) s.2), (6, zi (i : Int))]) (fun s w' => Ki w base p h g v w' v (t.1, t.2 || !b) ∧ w'.ownsRow w.heap.size 51 2 (.slice s.1 (os.length + 1) s.2) (os.length + 1) (cellsOf (os.map fun y => ([zi y.kind, strV y.name], y)) ++ [zi y.kind, strV y.name])) ?_ ?_
    rotate_left
    · intro K4 hK4
      refine And.intro (by omega) (And.intro hlt ?_)
      refine some_at ea ?_
      refine loadN_row (vs := [zi y.kind, strV y.name]) (fun j u hu => by rw [Int.toNat_natCast]; exact hc j u hu) rfl ?_
      have n6 := New.alloc wl (.cells [zi y.kind, strV y.name].toArray 51)
      have hwl := kl.mod.size
      refine append2_ ok rfl rfl rfl rfl (own_new n6 own) rfl rfl (row_alloc wl [zi y.kind, strV y.name] _ _) rfl (tyOk.one (w := wl) (S := fun _ => False) (x := y) rfl) (by decide) rfl (by show (os.length + 1) * 24 ≤ _; omega) (by omega) (Nat.le_trans hwl n6.size) ?_
      intro A7 c7 w7 own7 mod7 st7
      have k6 := kl.new n6
      refine hK4 (A7, c7) _ _ ⟨rfl, rfl, rfl, rfl, trivial⟩ ⟨k6.low mod7 (fun q hq => ?_) hbase, own7⟩
      have h1 := (own.lt _ hq.symm).1
      exact ⟨h1, c.hi h1⟩
    rintro ⟨A2, c2⟩ w2 fr2 ⟨k2, own2⟩
    dsimp only at own2
    obtain ⟨_, _, he, _, gx2⟩ := (k2.lrep tyOk (by decide) hl).get tyOk (by decide)
    cases he
    obtain ⟨a2, cs2, ea2, hx2, hc2⟩ := gx2 i hi
    rw [hy] at hx2
    obtain rfl := hx2
    refine And.intro (by omega) (And.intro hlt ?_)
    refine some_at ea2 ?_
    refine Exists.intro y.kind (And.intro (by have := hc2 0 _ rfl; rw [add_zero_] at this; rw [Int.toNat_natCast]; exact this) ?_)
    refine if_p (fun hk => ?_) (fun hk => ?_)
    · replace hk : y.kind = 2 := hk
      rw [decide_eq_true hk] at hK3
      have hinc : IntKind.i64.wrap ((i : Int) + 1) = ((i + 1 : Nat) : Int) := by
        rw [wrap_i64 (by omega) (by omega)]
        rfl
      refine seq_cut (σ := Unit) (fun _ => [(0, .pointer (some ⟨h, 0, none⟩)), (1, .slice Al xs.length cl), (5, .slice A2 (os.length + 1) c2), (6, zi ((i + 1 : Nat) : Int))]) (fun _ w' => w' = w2) ?_ ?_
      rotate_left
      · intro K4 hK4
        exact hK4 () _ _ ⟨rfl, rfl, rfl, (show zi (IntKind.i64.wrap ((i : Int) + 1)) = _ by rw [hinc]), trivial⟩ rfl
      rintro _ wz frz hwz
      obtain rfl := hwz.symm
      refine if_p (fun hl2 => ?_) (fun hl2 => ?_)
      · replace hl2 : ((i + 1 : Nat) : Int) < (xs.length : Int) := hl2
        have hi2 : i + 1 < xs.length := by omega
        have ed2 : xs.drop (i + 1) = xs[i + 1] :: xs.drop (i + 1 + 1) := List.drop_eq_getElem_cons hi2
        obtain ⟨a3, cs3, ea3, hx3, hc3⟩ := gx2 (i + 1) hi2
        generalize xs[i + 1] = z at hx3 ed2
        obtain rfl := hx3
        refine And.intro (by omega) (And.intro hl2 ?_)
        refine some_at ea3 ?_
        refine loadN_row (vs := [zi z.kind, strV z.name]) (fun j u hu => by rw [Int.toNat_natCast]; exact hc3 j u hu) rfl ?_
        refine ty_eql (a := z) (b := ty0) rfl rfl rfl ?_
        refine call_ (must_ok base p h g v _ (decide (z = ty0)) w2 k2.wi) ?_
        rintro e w3 ⟨rfl, k3⟩
        refine ⟨_, rfl, ?_⟩
        have own3 := own_mod k3.mod own2 (fun q hq e => c.hi (own2.lt q hq).1 e)
        have k23 := k2.then k3
        dsimp only at k23
        have eb : ((t.2 || !b) || !decide (z = ty0)) = (t.2 || !(b && decide (z = ty0))) := by cases t.2 <;> cases b <;> cases decide (z = ty0) <;> rfl
        rw [eb] at k23
        refine hK3 (i + 1, (A2, c2), b && decide (z = ty0)) _ _ ⟨rfl, rfl, rfl, rfl, trivial⟩ ⟨k23, own3, by dsimp only; omega, by dsimp only; omega, ?_, ?_⟩
        · dsimp only
          rw [ed2]
          rfl
        · dsimp only
          rw [ed2]
          show (b = true ∧ (z = ty0 ∧ locOk false (xs.drop (i + 1 + 1)))) ↔ _
          rw [Bool.and_eq_true, decide_eq_true_eq, and_assoc]
      · replace hl2 : ¬ ((i + 1 : Nat) : Int) < (xs.length : Int) := hl2
        have hd2 : xs.drop (i + 1) = [] := List.drop_eq_nil_iff.2 (by omega)
        refine call_ (must_ok base p h g v _ false w2 k2.wi) ?_
        rintro e w3 ⟨rfl, k3⟩
        refine ⟨_, rfl, ?_⟩
        have own3 := own_mod k3.mod own2 (fun q hq e => c.hi (own2.lt q hq).1 e)
        have k23 := k2.then k3
        dsimp only at k23
        have eb : ((t.2 || !b) || !false) = (t.2 || !false) := by cases t.2 <;> cases b <;> rfl
        rw [eb] at k23
        refine hK3 (i + 1, (A2, c2), false) _ _ ⟨rfl, rfl, rfl, rfl, trivial⟩ ⟨k23, own3, by dsimp only; omega, by dsimp only; omega, ?_, ?_⟩
        · dsimp only
          rw [hd2, List.drop_eq_nil_iff.2 (by omega : xs.length ≤ i + 1 + 1)]
          rfl
        · dsimp only
          rw [hd2]
          exact ⟨fun e => e.2.elim, fun e => by cases e.1⟩
    · replace hk : ¬ y.kind = 2 := hk
      rw [decide_eq_false hk] at hK3
      exact hK3 (i, (A2, c2), b) _ _ ⟨rfl, rfl, rfl, rfl, trivial⟩ ⟨k2, own2, Nat.le_refl _, by dsimp only; omega, rfl, Iff.rfl⟩
  rintro ⟨⟨Ao, co⟩, os⟩ w2 fr2 ⟨b, k2, hos, hb, own2⟩
  dsimp only at hos own2
  subst hos
  refine ⟨_, b, rfl, ?_, k2, hb⟩
  have hlen := locOut_len false xs
  obtain ⟨_, _, he, hcap1, hcap2, row, hlow⟩ := own_slice own2
  cases he
  refine ⟨Ao, co, (locOut false xs).map fun y => ([zi y.kind, strV y.name], y), rfl, (by rw [List.map_map]; exact List.map_id _), hcap1, hcap2, by omega, row, fun a ha hn => ?_, fun q hq => ?_⟩
  · have h1 := own2.lt a.block (by subst ha; rfl)
    exact ⟨h1.2, c.hi h1.1⟩
  · obtain ⟨y, _, rfl⟩ := List.mem_map.1 hq
    rfl

end Go.Proofs.YtdcaafldnbcdkaaDoor.Class

/-! ### KWrite3 -/
namespace Go.Proofs.YtdcaafldnbcdkaaDoor.Class
open Go Go.Proofs.YtdcaafldnbcdkaaDoor Go.Proofs.YtdcaafldnbcdkaaDoor.Eng Go.Proofs Go.Proofs.YtdcaafldnbcdkaaDoor.Word Go.Proofs.YtdcaafldnbcdkaaDoor.Fmt
open Go.Proofs.YtdcaafldnbcdkaaDoor.Pool (Ent at_ poolF strV entC entV EntOk Pl OkPool both own_low tagAt)
set_option maxRecDepth 10000

theorem fz0 {w : World} {b : Nat} {arr : Array Value} {ty : TypeId} (h : w.heap[b]? = some (.cells arr ty (0, 0))) : w.frozen? ⟨b, 0, none⟩ = false := frozen_of_row w b 0 _ _ h
theorem st0 {w : World} {g : Nat} {arr : Array Value} {t : TypeId} {v : Value} {K : World → Prop} (hb : w.heap[g]? = some (.cells arr t (0, 0))) (hj : 0 < arr.size)
    (k : ∀ w', w'.heap[g]? = some (.cells (arr.setIfInBounds 0 v) t (0, 0)) → Mod (fun b => b = g) w w' → w'.heap.size = w.heap.size → K w') : K (w.setCell ⟨g, 0, none⟩ v) := (stB0 hb hj k).2.2
section
variable {w w' w1 w2 : World} {base h g L : Nat} {p : Po} {v v' v1 v2 : Value} {t t2 : WT}
/-- Another one's blocks change. -/
theorem Wi.other {S : Nat → Prop} (c : Wi w1 base p h g v t) (m : Mod S w1 w2) (hS : ∀ b, b < w1.heap.size → S b → base ≤ b ∧ ¬ WH h g v b) : Wi w2 base p h g v t := by
  have hl := c.lt
  refine ⟨m.blk c.blk fun e => (hS _ hl.1 e).2 (.inr rfl), wr_mod c.wr m (fun e => (hS _ hl.2 e).2 (.inl (.inl rfl))) (fun b hb e => ?_), c.ne, c.off, c.bh, c.bg, c.cx.mod m fun b hb e => (hS b hb e).1⟩
  have hb2 := (c.wr.vlt hb).2
  exact (hS b hb2 e).2 (.inl (.inr hb.symm))
/-- What a writer's act leaves, where the last place's number changes too. -/
structure Kl (w : World) (base : Nat) (p : Po) (h g : Nat) (v : Value) (L : Nat) (w' : World) (v' : Value) (t : WT) : Prop where
  wi : Wi w' base p h g v' t
  mod : Mod (fun b => WH h g v b ∨ b = L) w w'
  st : stayed w v v'
theorem Kl.of (k : Ki w base p h g v w' v' t) : Kl w base p h g v L w' v' t := ⟨k.wi, k.mod.mono fun _ _ e => .inl e, k.st⟩
theorem Kl.then (c : Kl w base p h g v L w1 v1 t) (k : Kl w1 base p h g v1 L w2 v2 t2) : Kl w base p h g v L w2 v2 t2 := by
  refine ⟨k.wi, Mod.trans c.mod k.mod ?_, stayed.trans c.st c.mod.size k.st⟩
  rintro b hb (((e | e) | e) | e)
  · exact .inl (.inl (.inl e))
  · rcases c.st b e.symm with h1 | h1
    · exact .inl (.inl (.inr h1.symm))
    · omega
  · exact .inl (.inr e)
  · exact .inr e
theorem Kl.new (c : Kl w base p h g v L w' v' t) (n : New w' w2) : Kl w base p h g v L w2 v' t := ⟨c.wi.new n, Mod.trans c.mod n.mod fun _ _ e => False.elim e, c.st⟩
theorem Kl.set (k : Kl w base p h g v L w1 v' t) (m : Mod (fun b => b = L) w1 w2) (hb : base ≤ L) (hL : ¬ WH h g v' L) : Kl w base p h g v L w2 v' t :=
  ⟨k.wi.other m fun b _ e => by rw [e]; exact ⟨hb, hL⟩, Mod.trans k.mod m fun b _ e => .inr e, k.st⟩
theorem Kl.hid {t' : WT} (k : Kl w base p h g v L w' v' t') {b : Nat} (hb : b < w.heap.size) (hn : ¬ WH h g v b) : ¬ WH h g v' b := by
  rintro ((e | e) | e)
  · exact hn (.inl (.inl e))
  · rcases k.st b e.symm with h1 | h1
    · exact hn (.inl (.inr h1.symm))
    · omega
  · exact hn (.inr e)
theorem Kl.lrep {α : Type} {R : RepT α} {sz : Nat} {vl : Value} {xs : List α} {t : WT} (k : Kl w base p h g v L w' v' t) (hR : RepOk R sz) (hsz : 0 < sz) (hl : LRep R w (fun b => WH h g v b ∨ b = L) vl xs) : LRep R w' (fun b => WH h g v' b ∨ b = L) vl xs := by
  have h1 := LRep.weak (S' := fun b => (WH h g v b ∨ b = L) ∨ w.heap.size ≤ b) hR hl fun b hb e => e.resolve_right (by omega)
  refine LRep.weak hR (LRep.mod hR hsz h1 (k.mod.mono fun _ _ e => .inl e)) fun b _ e => ?_
  rcases e with ((e | e) | e) | e
  · exact .inl (.inl (.inl (.inl e)))
  · rcases k.st b e.symm with e1 | e1
    · exact .inl (.inl (.inl (.inr e1.symm)))
    · exact .inr e1
  · exact .inl (.inl (.inr e))
  · exact .inl (.inr e)
end
theorem good255 : good ((1 : Nat) : Int) false [255] = true := by decide
theorem map1_ok (p : Po) (base : Nat) (h g : Nat) (v : Value) (t : WT) (cs : List Value) (x : Mp) (X L : Nat) (last : Int) (w : World) (c : Wi w base p h g v t) (hO : OkPool p.l) (hX : w.heap[X]? = some (.cells #[.pointer (some ⟨h, 0, none⟩)] 78 (0, 0))) (hL : w.heap[L]? = some (.cells #[zi last] 3 (0, 0))) (hXn : ¬ WH h g v X) (hLn : ¬ WH h g v L) (hXL : X ≠ L) (hbL : base ≤ L) (hlast : -1 ≤ last ∧ last ≤ 65535)
    (hx : mpR w (fun b => WH h g v b ∨ b = L) cs x) (hm : t.1.length + cMp x ≤ 1000000000) :
    Calls Tryd.prog 106 #[.agg cs.toArray, .pointer (some ⟨X, 0, none⟩), .pointer (some ⟨L, 0, none⟩)] w fun e w' => e = .returned (.tuple #[]) ∧ ∃ v' t', Kl w base p h g v L w' v' t' ∧ Wri (mapT p.l last) (cMp x) t x t' ∧ (t'.2 = false → w'.heap[L]? = some (.cells #[zi x.at_] 3 (0, 0)) ∧ -1 ≤ x.at_ ∧ x.at_ ≤ 65535) := by
  obtain ⟨_, _, rfl, hl1, hl2⟩ := hx
  obtain ⟨A1, c1, rfl, hn1, _⟩ := hl1.get tyOk (by decide)
  obtain ⟨A2, c2, rfl, hn2, _⟩ := hl2.get tyOk (by decide)
  have hcost : cMp x = 7 + 3 * x.locals.length + 3 * x.stack.length := rfl
  have hXl : X < w.heap.size := (Array.getElem?_eq_some_iff.1 hX).1
  have hLl : L < w.heap.size := (Array.getElem?_eq_some_iff.1 hL).1
  obtain ⟨M, hM⟩ : ∃ M, M = w.heap.size := ⟨_, rfl⟩
  refine enter ok Tryd.func106 rfl rfl rfl ?_
  refine seq_cut (σ := Unit) (fun _ => [(1, .pointer (some ⟨X, 0, none⟩)), (2, .pointer (some ⟨L, 0, none⟩)), (3, .pointer (some ⟨M, 0, none⟩))]) (fun _ w' => New w w' ∧ w'.heap[M]? = some (.cells #[zi x.at_, .slice A1 x.locals.length c1, .slice A2 x.stack.length c2] 49 (0, 0))) ?_ ?_
  rotate_left
  · intro K hK
    rw [hM] at hK
    exact hK () _ _ ⟨rfl, rfl, rfl, trivial⟩ ⟨New.alloc w _, heap_alloc_new w (.cells #[zi x.at_, .slice A1 x.locals.length c1, .slice A2 x.stack.length c2] 49)⟩
  rintro _ w1 fr1 ⟨n1, hM1⟩
  have c1' := c.new n1
  have hX1 := n1.blk hX
  have hL1 := n1.blk hL
  have hMl : M < w1.heap.size := (Array.getElem?_eq_some_iff.1 hM1).1
  have hMn : ¬ WH h g v M := c.hi (by omega)
  have hs1 := n1.size
  have B0 : True := trivial
  refine seq_cut (σ := Bool) (fun _ => [(1, .pointer (some ⟨X, 0, none⟩)), (2, .pointer (some ⟨L, 0, none⟩)), (3, .pointer (some ⟨M, 0, none⟩))]) (fun b w' => Ki w1 base p h g v w' v (t.1, t.2 || !b) ∧ (b = true ↔ last < x.at_ ∧ x.at_ ≤ 65535)) ?_ ?_
  rotate_left
  · intro K hK
    refine Exists.intro (some ⟨h, 0, none⟩) (And.intro (cell0 hX1) ?_)
    refine Exists.intro x.at_ (And.intro (cellB hM1 rfl) ?_)
    refine Exists.intro last (And.intro (cell0 hL1) ?_)
    refine if_p (fun ha => ?_) (fun ha => ?_)
    · replace ha : last < x.at_ := ha
      refine Exists.intro x.at_ (And.intro (cellB hM1 rfl) ?_)
      refine call_ (must_ok base p h g v t (decide (x.at_ ≤ 65535)) w1 c1') ?_
      rintro e w2 ⟨rfl, k2⟩
      refine ⟨_, rfl, ?_⟩
      exact hK _ _ _ ⟨rfl, rfl, rfl, trivial⟩ ⟨k2, by rw [decide_eq_true_eq]; exact ⟨fun e => ⟨ha, e⟩, fun e => e.2⟩⟩
    · replace ha : ¬ last < x.at_ := ha
      refine call_ (must_ok base p h g v t false w1 c1') ?_
      rintro e w2 ⟨rfl, k2⟩
      refine ⟨_, rfl, ?_⟩
      exact hK false _ _ ⟨rfl, rfl, rfl, trivial⟩ ⟨k2, ⟨fun e => (by cases e), fun e => absurd e.1 ha⟩⟩
  rintro b w2 fr2 ⟨k2, hb⟩
  have hX2 := k2.blk hX1 hXn
  have hL2 := k2.blk hL1 hLn
  have hM2 := k2.blk hM1 hMn
  have k02 := ((Ki.refl c).new n1).then k2
  refine seq_cut (σ := Unit) (fun _ => [(1, .pointer (some ⟨X, 0, none⟩)), (2, .pointer (some ⟨L, 0, none⟩)), (3, .pointer (some ⟨M, 0, none⟩))]) (fun _ w' => w' = w2 ∧ (t.2 || !b) = false) ?_ ?_
  rotate_left
  · intro K hK
    refine Exists.intro (some ⟨h, 0, none⟩) (And.intro (cell0 hX2) ?_)
    refine Exists.intro (t.2 || !b) (And.intro (cellB k2.wi.blk rfl) ?_)
    refine if_ (fun hbad => ?_) (fun hbad => ?_)
    · exact ⟨rfl, v, _, Kl.of k02, Wri.pre (b := b) (Wri.bad hbad _ _) (fun o => hb.2 o.1), fun e => by dsimp only at e; rw [hbad] at e; cases e⟩
    · exact hK () _ _ ⟨rfl, rfl, rfl, trivial⟩ ⟨rfl, hbad⟩
  rintro _ wy fry ⟨hwy, hgood⟩
  obtain rfl := hwy.symm
  have hP : last < x.at_ ∧ x.at_ ≤ 65535 := hb.1 (by
    rw [Bool.or_eq_false_iff] at hgood
    have := hgood.2
    revert this
    cases b <;> decide)
  -- its mark
  refine seq_cut (σ := Value) (fun _ => [(1, .pointer (some ⟨X, 0, none⟩)), (2, .pointer (some ⟨L, 0, none⟩)), (3, .pointer (some ⟨M, 0, none⟩))]) (fun v' w' => Ki w2 base p h g v w' v' (noteU (t.1, t.2 || !b) 1 [255])) ?_ ?_
  rotate_left
  · intro K hK
    refine Exists.intro (some ⟨h, 0, none⟩) (And.intro (cell0 hX2) ?_)
    refine Exists.intro (some ⟨g, 0, none⟩) (And.intro (cellB k2.wi.blk rfl) ?_)
    refine call_ (WUn base p h g v (t.1, t.2 || !b) 1 255 w2 k2.wi (by dsimp only; omega)) ?_
    rintro e w3 ⟨rfl, v3, k3⟩
    refine ⟨_, rfl, ?_⟩
    rw [← noteU_good good255] at k3
    exact hK v3 _ _ ⟨rfl, rfl, rfl, trivial⟩ k3
  rintro v3 w3 fr3 k3
  have q1 : Wri Class.n1 1 (t.1, t.2 || !b) 255 (noteU (t.1, t.2 || !b) 1 [255]) := Wri.n1
  generalize noteU (t.1, t.2 || !b) 1 [255] = t3 at k3 q1
  have p1 := q1.1
  dsimp only at p1
  have k03 := k02.then k3
  have hX3 := k3.blk hX2 (k2.hid (by omega) hXn)
  have hL3 := k3.blk hL2 (k2.hid (by omega) hLn)
  have hM3 := k3.blk hM2 (k2.hid hMl hMn)
  -- how far
  have hz : IntKind.i64.wrap (IntKind.i64.wrap (x.at_ - last) - 1) = x.at_ - last - 1 := by
    rw [wrap_i64 (n := x.at_ - last) (by omega) (by omega), wrap_i64 (by omega) (by omega)]
  refine seq_cut (σ := Value) (fun _ => [(1, .pointer (some ⟨X, 0, none⟩)), (2, .pointer (some ⟨L, 0, none⟩)), (3, .pointer (some ⟨M, 0, none⟩))]) (fun v' w' => Ki w3 base p h g v3 w' v' (noteU t3 2 [x.at_ - last - 1])) ?_ ?_
  rotate_left
  · intro K hK
    refine Exists.intro (some ⟨h, 0, none⟩) (And.intro (cell0 hX3) ?_)
    refine Exists.intro x.at_ (And.intro (cellB hM3 rfl) ?_)
    refine Exists.intro last (And.intro (cell0 hL3) ?_)
    refine call_ (two1_ok base p h g v3 t3 [IntKind.i64.wrap (IntKind.i64.wrap (x.at_ - last) - 1)] 1 w3 k3.wi rfl (by simp; omega)) ?_
    rintro e w4 ⟨rfl, v4, k4⟩
    refine ⟨_, rfl, ?_⟩
    rw [hz] at k4
    exact hK v4 _ _ ⟨rfl, rfl, rfl, trivial⟩ k4
  rintro v4 w4 fr4 k4
  have q2 : Wri Class.n2 2 t3 (x.at_ - last - 1) (noteU t3 2 [x.at_ - last - 1]) := Wri.n2
  generalize noteU t3 2 [x.at_ - last - 1] = t4 at k4 q2
  have p2 := q2.1
  have k04 := k03.then k4
  have hs2 := k2.mod.size
  have hs3 := k3.mod.size
  have hX4 := k4.blk hX3 (k3.hid (by omega) (k2.hid (by omega) hXn))
  have hL4 := k4.blk hL3 (k3.hid (by omega) (k2.hid (by omega) hLn))
  have hM4 := k4.blk hM3 (k3.hid (by omega) (k2.hid hMl hMn))
  have hX4n := k04.hid hXl hXn
  have hL4n := k04.hid hLl hLn
  have hM4n : ¬ WH h g v4 M := k4.hid (by have := k3.mod.size; omega) (k3.hid (by omega) (k2.hid hMl hMn))
  -- the last place
  refine seq_cut (σ := Unit) (fun _ => [(1, .pointer (some ⟨X, 0, none⟩)), (2, .pointer (some ⟨L, 0, none⟩)), (3, .pointer (some ⟨M, 0, none⟩))]) (fun _ w' => Mod (fun b => b = L) w4 w' ∧ w'.heap[L]? = some (.cells #[zi x.at_] 3 (0, 0))) ?_ ?_
  rotate_left
  · intro K hK
    refine Exists.intro x.at_ (And.intro (cellB hM4 rfl) ?_)
    refine And.intro ⟨_, cell0 hL4⟩ (And.intro (fz0 hL4) (force_ ?_))
    refine st0 hL4 (show (0 : Nat) < 1 by decide) ?_
    intro w5 hL5 m5 s5
    exact hK () _ _ ⟨rfl, rfl, rfl, trivial⟩ ⟨m5, hL5⟩
  rintro _ w5 fr5 ⟨m5, hL5⟩
  have k05 := (Kl.of (L := L) k04).set m5 hbL hL4n
  have hX5 := m5.blk hX4 hXL
  have hM5 := m5.blk hM4 (show ¬ M = L by omega)
  have c5 := k05.wi
  have hl51 := LRep.weak (S' := WH h g v4) tyOk (k05.lrep tyOk (by decide) hl1) (fun b _ e => .inl e)
  have hl52 := LRep.weak (S' := WH h g v4) tyOk (k05.lrep tyOk (by decide) hl2) (fun b _ e => .inl e)
  have hs4 := k4.mod.size
  have hs5 := m5.size
  -- its locals
  refine seq_cut (σ := Value × WT) (fun _ => [(1, .pointer (some ⟨X, 0, none⟩)), (2, .pointer (some ⟨L, 0, none⟩)), (3, .pointer (some ⟨M, 0, none⟩))]) (fun s w' => Ki w5 base p h g v4 w' s.1 s.2 ∧ Wri (lcsT p.l) (2 + 3 * x.locals.length) t4 x.locals s.2 ∧ w'.heap[X]? = some (.cells #[.pointer (some ⟨h, 0, none⟩)] 78 (0, 0)) ∧ w'.heap[M]? = some (.cells #[zi x.at_, .slice A1 x.locals.length c1, .slice A2 x.stack.length c2] 49 (0, 0))) ?_ ?_
  rotate_left
  · intro K hK
    refine draw_ (w := w5) ok (.q 0 (.q 1 (.q 2 (.q 3 (.q 5 (.q 6 (.e 4 (.e 7 .done)))))))) [7] (fun w'' : World => w''.heap[X]? = some (.cells #[.pointer (some ⟨h, 0, none⟩)] 78 (0, 0)) ∧ w''.heap[M]? = some (.cells #[zi x.at_, .slice A1 x.locals.length c1, .slice A2 x.stack.length c2] 49 (0, 0))) (by kernel_rfl) (by kernel_rfl) (by kernel_rfl) (by kernel_rfl) (by kernel_rfl) ⟨(New.drew w5).blk hX5, (New.drew w5).blk hM5⟩ ?_
    refine Exists.intro (some ⟨h, 0, none⟩) (And.intro (fun w'' hw => cell0 hw.1) ?_)
    refine Exists.intro (some ⟨h, 0, none⟩) (And.intro (fun w'' hw => cell0 hw.1) ?_)
    refine Exists.intro A1 (Exists.intro x.locals.length (Exists.intro c1 (And.intro (fun w'' hw => cellB hw.2 rfl) ?_)))
    refine Exists.intro (some ⟨h, 0, none⟩) (And.intro (fun w'' hw => cell0 hw.1) ?_)
    have nd := New.drew w5
    have kd := (Ki.refl c5).new nd
    refine call_ (locals_ok p base h g v4 t4 _ x.locals w5.drew kd.wi (kd.lrep tyOk (by decide) hl51) (by omega)) ?_
    rintro e w6 ⟨u, b6, rfl, hu, k6, hb6⟩
    refine ⟨_, rfl, ?_⟩
    have k56 := kd.then k6
    have hX6 := k56.blk hX5 hX4n
    have hM6 := k56.blk hM5 hM4n
    refine Exists.intro (fun w'' : World => w''.heap[X]? = some (.cells #[.pointer (some ⟨h, 0, none⟩)] 78 (0, 0)) ∧ w''.heap[M]? = some (.cells #[zi x.at_, .slice A1 x.locals.length c1, .slice A2 x.stack.length c2] 49 (0, 0))) ?_
    refine And.intro (fun _ h => h) ?_
    refine And.intro ⟨hX6, hM6⟩ ?_
    have hol := locOut_len false x.locals
    have hcs := csum_const (f := cTy) (n := 3) (fun _ => rfl) (locOut false x.locals)
    refine call_ (list_ty p base h g v4 (t4.1, t4.2 || !b6) u (locOut false x.locals) w6 k56.wi hO (LRep.weak tyOk hu fun _ _ e => e) (by dsimp only; omega)) ?_
    rintro e w7 ⟨rfl, v7, t7, k7, wr7⟩
    refine ⟨_, rfl, ?_⟩
    have hs6 := k56.mod.size
    refine hK (v7, t7) _ _ ⟨rfl, rfl, rfl, trivial⟩ ⟨k56.then k7, ?_, k7.blk hX6 (k56.hid (by omega) hX4n), k7.blk hM6 (k56.hid (by omega) hM4n)⟩
    exact Wri.le (Wri.by (p := b6) wr7 rfl hb6) (by omega)
  rintro ⟨v7, t7⟩ w7 fr7 ⟨k7, q3, hX7, hM7⟩
  dsimp only at k7 q3
  have p3 := q3.1
  have hcs := csum_const (f := cTy) (n := 3) (fun _ => rfl) x.stack
  -- its stack
  refine Exists.intro (some ⟨h, 0, none⟩) (And.intro (cell0 hX7) ?_)
  refine Exists.intro A2 (Exists.intro x.stack.length (Exists.intro c2 (And.intro (cellB hM7 rfl) ?_)))
  refine Exists.intro (some ⟨h, 0, none⟩) (And.intro (cell0 hX7) ?_)
  refine call_ (list_ty p base h g v7 t7 _ x.stack w7 k7.wi hO (k7.lrep tyOk (by decide) hl52) (by omega)) ?_
  rintro e w8 ⟨rfl, v8, t8, k8, q4⟩
  refine ⟨_, rfl, ?_⟩
  refine ⟨rfl, v8, t8, (k05.then (Kl.of k7)).then (Kl.of k8), ?_, fun _ => ⟨k8.blk (k7.blk hL5 hL4n) (k7.hid (by omega) hL4n), by omega, hP.2⟩⟩
  have := Wri.by (p := b) (P := fun m : Mp => last < m.at_ ∧ m.at_ ≤ 65535) (f := fun m : Mp => (255, m.at_ - last - 1, m.locals, m.stack)) (hf := fun x y _ _ e => by
    cases x; cases y
    simp only [Prod.mk.injEq] at e
    simp only [Mp.mk.injEq]
    exact ⟨by omega, e.2.2.1, e.2.2.2⟩) (q1.seq (q2.seq (q3.seq q4))) rfl hb
  refine Wri.le (d := cMp x) this ?_
  rw [hcost]
  omega
theorem list_map (p : Po) (base : Nat) (h g : Nat) (v : Value) (t : WT) (vl : Value) (xs : List Mp) (X L : Nat)  (w : World) (c : Wi w base p h g v t) (hO : OkPool p.l) (hl : LRep mpR w (fun b => WH h g v b ∨ b = L) vl xs) (hX : w.heap[X]? = some (.cells #[.pointer (some ⟨h, 0, none⟩)] 78 (0, 0))) (hL : w.heap[L]? = some (.cells #[zi (-1)] 3 (0, 0))) (hXn : ¬ WH h g v X) (hLn : ¬ WH h g v L) (hXL : X ≠ L) (hbL : base ≤ L)  (hm : t.1.length + (2 + csum cMp xs) ≤ 1000000000) :
    Calls Tryd.prog 105 #[.pointer (some ⟨h, 0, none⟩), vl, zi 256, .func (.func 106) #[] #[.pointer (some ⟨X, 0, none⟩), .pointer (some ⟨L, 0, none⟩)]] w fun e w' => e = .returned (.tuple #[]) ∧ ∃ v' t', Kl w base p h g v L w' v' t' ∧ Wri (mapsT p.l) (2 + csum cMp xs) t xs t' := by
  obtain ⟨Al, cl, rfl, h43, _⟩ := hl.get mpOk (by decide)
  refine enter ok Tryd.func105 rfl rfl rfl ?_
  refine seq_cut (σ := Unit) (fun _ => [(0, .pointer (some ⟨h, 0, none⟩)), (1, .slice Al xs.length cl), (3, .func (.func 106) #[] #[.pointer (some ⟨X, 0, none⟩), .pointer (some ⟨L, 0, none⟩)])]) (fun _ w' => Ki w base p h g v w' v (t.1, t.2 || !decide (xs.length ≤ 256))) ?_ ?_
  rotate_left
  · intro K hK
    refine call_ (must_ok base p h g v t (decide ((xs.length : Int) ≤ 256)) w c) ?_
    rintro e w1 ⟨rfl, k1⟩
    refine ⟨_, rfl, ?_⟩
    have e1 : decide ((xs.length : Int) ≤ 256) = decide (xs.length ≤ 256) := decide_eq_decide.2 (by omega)
    rw [e1] at k1
    exact hK () _ _ ⟨rfl, rfl, rfl, trivial⟩ k1
  rintro _ w1 fr1 k1
  refine seq_cut (σ := Value × WT) (fun _ => [(0, .pointer (some ⟨h, 0, none⟩)), (1, .slice Al xs.length cl), (3, .func (.func 106) #[] #[.pointer (some ⟨X, 0, none⟩), .pointer (some ⟨L, 0, none⟩)])]) (fun s w' => Ki w base p h g v w' s.1 s.2 ∧ Wri n2 2 (t.1, t.2 || !decide (xs.length ≤ 256)) (xs.length : Int) s.2) ?_ ?_
  rotate_left
  · intro K hK
    refine Exists.intro (t.2 || !decide (xs.length ≤ 256)) (And.intro (cellB k1.wi.blk rfl) ?_)
    cases hbad : (t.2 || !decide (xs.length ≤ 256)) with
    | true =>
      rw [hbad] at k1 hK
      exact hK (v, (t.1, true)) _ _ ⟨rfl, rfl, rfl, trivial⟩ ⟨k1, Wri.bad rfl _ _⟩
    | false =>
      rw [hbad] at k1 hK
      refine call_ (two1_ok base p h g v (t.1, false) [(xs.length : Int)] 1 w1 k1.wi rfl (by simp; omega)) ?_
      rintro e w2 ⟨rfl, v2, k2⟩
      refine ⟨_, rfl, ?_⟩
      exact hK (v2, _) _ _ ⟨rfl, rfl, rfl, trivial⟩ ⟨k1.then k2, Wri.n2⟩
  rintro ⟨v2, t2⟩ w2 fr2 ⟨k2, wr2⟩
  dsimp only at k2 wr2
  refine seq_cut (σ := Unit) (fun _ => [(0, .pointer (some ⟨h, 0, none⟩)), (3, .func (.func 106) #[] #[.pointer (some ⟨X, 0, none⟩), .pointer (some ⟨L, 0, none⟩)]), (26, .slice Al xs.length cl), (27, zi (xs.length : Int)), (28, zi 0)]) (fun _ w' => w' = w2) ?_ ?_
  rotate_left
  · intro K hK
    exact hK () _ _ ⟨rfl, rfl, rfl, rfl, rfl, trivial⟩ rfl
  rintro _ wy fry hwy
  obtain rfl := hwy.symm
  have hXw : X < w.heap.size := (Array.getElem?_eq_some_iff.1 hX).1
  have hLw : L < w.heap.size := (Array.getElem?_eq_some_iff.1 hL).1
  refine den_loop (σ := Nat × Value × WT × Int) (fun s => [(0, .pointer (some ⟨h, 0, none⟩)), (3, .func (.func 106) #[] #[.pointer (some ⟨X, 0, none⟩), .pointer (some ⟨L, 0, none⟩)]), (26, .slice Al xs.length cl), (27, zi (xs.length : Int)), (28, zi (s.1 : Int))])
    (fun m s wl => m + s.1 = xs.length ∧ Kl w base p h g v L wl s.2.1 s.2.2.1 ∧ wl.heap[X]? = some (.cells #[.pointer (some ⟨h, 0, none⟩)] 78 (0, 0)) ∧ (s.2.2.1.2 = false → wl.heap[L]? = some (.cells #[zi s.2.2.2] 3 (0, 0)) ∧ -1 ≤ s.2.2.2 ∧ s.2.2.2 ≤ 65535) ∧ WMs p.l t xs s.1 s.2.2.2 s.2.2.1) xs.length (0, v2, t2, -1) ⟨rfl, rfl, rfl, rfl, rfl, trivial⟩ ⟨rfl, Kl.of k2, k2.blk hX hXn, fun _ => ⟨k2.blk hL hLn, by dsimp only; omega, by dsimp only; omega⟩, WMs.start wr2⟩ ?_
  rintro m ⟨i, v3, t3, last⟩ wl frl ⟨hfuel, kl, hXl, hLl, hw⟩
  dsimp only at hfuel kl hLl hw
  refine if_p (fun hlt => ?_) (fun hge => ?_)
  · replace hlt : (i : Int) < (xs.length : Int) := hlt
    have hi : i < xs.length := by omega
    obtain ⟨m, rfl⟩ : ∃ m', m = m' + 1 := ⟨m - 1, by omega⟩
    have inc := incN hi h43
    obtain ⟨Al', cl', he, _, gx⟩ := (kl.lrep mpOk (by decide) hl).get mpOk (by decide)
    cases he
    obtain ⟨a, cs, ea, hx, hc⟩ := gx i hi
    have hcs : csum cMp (xs.take i) + cMp xs[i] ≤ csum cMp xs := by
      have h1 := csum_le cMp xs (i + 1)
      rw [List.take_succ_eq_append_getElem hi, csum_snoc] at h1
      exact h1
    have hw1 := hw.1
    have hmem : xs[i] ∈ xs := List.getElem_mem hi
    obtain ⟨y, hy⟩ : ∃ y, y = xs[i] := ⟨_, rfl⟩
    rw [← hy] at hx hcs hmem
    have hx0 := hx
    obtain ⟨_, _, rfl, hy1, hy2⟩ := hx
    obtain ⟨A1, c1, rfl, _⟩ := hy1.get tyOk (by decide)
    obtain ⟨A2, c2, rfl, _⟩ := hy2.get tyOk (by decide)
    refine And.intro (by omega) (And.intro hlt ?_)
    refine some_at ea ?_
    refine loadN_row (vs := [zi y.at_, .slice A1 y.locals.length c1, .slice A2 y.stack.length c2]) (fun j u hu => by rw [Int.toNat_natCast]; exact hc j u hu) rfl ?_
    refine And.intro rfl ?_
    refine storeNew (vs := [zi y.at_, .slice A1 y.locals.length c1, .slice A2 y.stack.length c2]) (arr := #[zi 0, .slice none 0 0, .slice none 0 0]) rfl (mpOk.one hx0) ?_
    intro w5 hb5 n5 s5
    have k5 := kl.new n5
    refine Exists.intro t3.2 (And.intro (cellB k5.wi.blk rfl) ?_)
    refine if_ (fun hbad => ?_) (fun hbad => ?_)
    · exact ⟨rfl, v3, t3, k5, hw.stop hbad⟩
    refine skip_ (thenF_ ?_)
    refine loadN_row (vs := [zi y.at_, .slice A1 y.locals.length c1, .slice A2 y.stack.length c2]) (rowB hb5) rfl ?_
    refine call_ (map1_ok p base h g v3 t3 _ y X L last w5 k5.wi hO (n5.blk hXl) (n5.blk (hLl hbad).1) (kl.hid hXw hXn) (kl.hid hLw hLn) hXL hbL (hLl hbad).2 (mpOk.mod hx0 n5.mod) (by omega)) ?_
    rintro e w6 ⟨rfl, v6, t6, k6, wr6, hl6⟩
    refine ⟨_, rfl, ?_⟩
    exact ⟨m, (i + 1, v6, t6, y.at_), by omega, ⟨rfl, rfl, rfl, rfl, inc, trivial⟩, by dsimp only; omega, k5.then k6, k6.mod.blk (n5.blk hXl) (fun e => e.elim (kl.hid hXw hXn) hXL), hl6, (by dsimp only; rw [hy]; exact hw.step hi (by rw [← hy]; exact wr6))⟩
  · replace hge : ¬ (i : Int) < (xs.length : Int) := hge
    obtain rfl : i = xs.length := by omega
    exact ⟨rfl, v3, t3, kl, hw.done⟩

theorem maps_ok (p : Po) (base : Nat) (h g : Nat) (v : Value) (t : WT) (vl : Value) (xs : List Mp) (w : World) (c : Wi w base p h g v t) (hO : OkPool p.l) (hl : LRep mpR w (WH h g v) vl xs) (hm : t.1.length + (2 + csum cMp xs) ≤ 1000000000) :
    Calls Tryd.prog 79 #[.pointer (some ⟨h, 0, none⟩), vl] w fun e w' => e = .returned (.tuple #[]) ∧ ∃ v' t', Ki w base p h g v w' v' t' ∧ Wri (mapsT p.l) (2 + csum cMp xs) t xs t' := by
  obtain ⟨Al, cl, rfl, h43, _⟩ := hl.get mpOk (by decide)
  refine enter ok Tryd.func79 rfl rfl rfl ?_
  refine seq_cut (σ := Nat) (fun X => [(1, .slice Al xs.length cl), (2, .pointer (some ⟨X, 0, none⟩))]) (fun X w' => New w w' ∧ w.heap.size ≤ X ∧ w'.heap[X]? = some (.cells #[.pointer (some ⟨h, 0, none⟩)] 78 (0, 0))) ?_ ?_
  rotate_left
  · intro K hK
    exact hK w.heap.size _ _ ⟨rfl, rfl, trivial⟩ ⟨New.alloc w _, Nat.le_refl _, heap_alloc_new w (.cells #[.pointer (some ⟨h, 0, none⟩)] 78)⟩
  rintro X w1 fr1 ⟨n1, hXw, hX⟩
  have hXl : X < w1.heap.size := (Array.getElem?_eq_some_iff.1 hX).1
  refine seq_cut (σ := Nat) (fun L => [(1, .slice Al xs.length cl), (2, .pointer (some ⟨X, 0, none⟩)), (4, .pointer (some ⟨L, 0, none⟩))]) (fun L w' => New w1 w' ∧ w1.heap.size ≤ L ∧ w'.heap[L]? = some (.cells #[zi (-1)] 3 (0, 0))) ?_ ?_
  rotate_left
  · intro K hK
    have n2 := New.alloc w1 (.cells #[zi 0] 3)
    have hb2 := heap_alloc_new w1 (.cells #[zi 0] 3)
    refine And.intro ⟨_, cell0 hb2⟩ (And.intro (fz0 hb2) (force_ ?_))
    refine st0 hb2 (show (0 : Nat) < 1 by decide) ?_
    intro w2 hb m2 s2
    exact hK w1.heap.size _ _ ⟨rfl, rfl, rfl, trivial⟩ ⟨New.made m2, Nat.le_refl _, hb⟩
  rintro L w2 fr2 ⟨n2, hLw, hL⟩
  have n02 := n1.trans n2
  have k2 := (Ki.refl c).new n02
  have hz1 := n1.size
  have hbw := c.bw
  refine Exists.intro (some ⟨h, 0, none⟩) (And.intro (cell0 (n2.blk hX)) ?_)
  have hXn : ¬ WH h g v X := c.hi hXw
  have hLn : ¬ WH h g v L := c.hi (by omega)
  have hl2 : LRep mpR w2 (fun b => WH h g v b ∨ b = L) (.slice Al xs.length cl) xs := by
    have h1 := LRep.weak (S' := fun b => WH h g v b ∨ b = L) mpOk hl fun b hb e => e.resolve_right (by omega)
    exact LRep.mod mpOk (by decide) h1 (n02.mod.mono fun _ _ e => False.elim e)
  refine call_ (list_map p base h g v t _ xs X L w2 k2.wi hO hl2 (n2.blk hX) hL hXn hLn (by omega) (by omega) hm) ?_
  rintro e w3 ⟨rfl, v3, t3, k3, wr3⟩
  refine ⟨_, rfl, ?_⟩
  refine ⟨rfl, v3, t3, ⟨k3.wi, Mod.trans n02.mod k3.mod fun b hb e => ?_, stayed.trans (stayed.refl w v) n02.size k3.st⟩, wr3⟩
  rcases e with e | e
  · exact e
  · omega

end Go.Proofs.YtdcaafldnbcdkaaDoor.Class

/-! ### KWrite4 -/
namespace Go.Proofs.YtdcaafldnbcdkaaDoor.Class
open Go Go.Proofs.YtdcaafldnbcdkaaDoor Go.Proofs.YtdcaafldnbcdkaaDoor.Eng Go.Proofs Go.Proofs.YtdcaafldnbcdkaaDoor.Word Go.Proofs.YtdcaafldnbcdkaaDoor.Fmt
open Go.Proofs.YtdcaafldnbcdkaaDoor.Pool (Ent at_ poolF strV entC entV EntOk Pl OkPool both own_low tagAt)
set_option maxRecDepth 10000

theorem Ki.also {S : Nat → Prop} {w w1 w2 w3 : World} {base h g : Nat} {p : Po} {v v1 v3 : Value} {t1 t3 : WT} (k : Ki w base p h g v w1 v1 t1) (m : Mod S w1 w2) (hS : ∀ b, S b → w.heap.size ≤ b) (k2 : Ki w2 base p h g v1 w3 v3 t3) : Ki w base p h g v w3 v3 t3 := by
  refine ⟨k2.wi, Mod.trans (Mod.trans (S := WH h g v) k.mod m fun b hb e => ?_) k2.mod ?_, stayed.trans k.st (Nat.le_trans k.mod.size m.size) k2.st⟩
  · have := hS b e
    omega
  rintro b hb ((e | e) | e)
  · exact .inl (.inl e)
  · rcases k.st b e.symm with h1 | h1
    · exact .inl (.inr h1.symm)
    · omega
  · exact .inr e
theorem LRep.up {α : Type} {R : RepT α} {sz : Nat} {w w' : World} {S S' : Nat → Prop} {vl : Value} {xs : List α} (hR : RepOk R sz) (hsz : 0 < sz) (hl : LRep R w S vl xs) (n : New w w') (hS : ∀ b, S' b → w.heap.size ≤ b) : LRep R w' S' vl xs := by
  have h1 := LRep.weak (S' := fun b => w.heap.size ≤ b) hR hl fun b hb e => absurd hb (by omega)
  exact LRep.weak hR (LRep.mod hR hsz h1 (n.mod.mono fun _ _ e => False.elim e)) fun b _ e => hS b e
theorem rep_up {α : Type} {R : RepT α} {sz : Nat} {w w' : World} {S S' : Nat → Prop} {cs : List Value} {x : α} (hR : RepOk R sz) (hl : R w S cs x) (n : New w w') (hS : ∀ b, S' b → w.heap.size ≤ b) : R w' S' cs x := by
  have h1 := hR.weak (S' := fun b => w.heap.size ≤ b) hl fun b hb e => absurd hb (by omega)
  exact hR.weak (hR.mod h1 (n.mod.mono fun _ _ e => False.elim e)) fun b _ e => hS b e
theorem hnd1_ok (p : Po) (base : Nat) (h g : Nat) (v : Value) (t : WT) (cs : List Value) (x : Hnd) (X : Nat) (w : World) (c : Wi w base p h g v t) (hX : w.heap[X]? = some (.cells #[.pointer (some ⟨h, 0, none⟩)] 78 (0, 0))) (hXn : ¬ WH h g v X) (hx : hndR w (WH h g v) cs x) (hm : t.1.length + cHnd x ≤ 1000000000) :
    Calls Tryd.prog 78 #[.agg cs.toArray, .pointer (some ⟨X, 0, none⟩)] w fun e w' => e = .returned (.tuple #[]) ∧ ∃ v' t', Ki w base p h g v w' v' t' ∧ Wri (hndT p.l) (cHnd x) t x t' := by
  obtain rfl := hx
  unfold cHnd at hm
  refine enter ok Tryd.func78 rfl rfl rfl ?_
  obtain ⟨M, hM⟩ : ∃ M, M = w.heap.size := ⟨_, rfl⟩
  refine seq_cut (σ := Unit) (fun _ => [(1, .pointer (some ⟨X, 0, none⟩)), (2, .pointer (some ⟨M, 0, none⟩))]) (fun _ w' => New w w' ∧ w'.heap[M]? = some (.cells #[zi x.from_, zi x.to, zi x.at_, zi x.cls] 46 (0, 0))) ?_ ?_
  rotate_left
  · intro K hK
    rw [hM] at hK
    exact hK () _ _ ⟨rfl, rfl, trivial⟩ ⟨New.alloc w _, heap_alloc_new w (.cells #[zi x.from_, zi x.to, zi x.at_, zi x.cls] 46)⟩
  rintro _ w0 fr0 ⟨n0, hM0⟩
  have c0 := c.new n0
  have hX0 := n0.blk hX
  have hMn : ¬ WH h g v M := c.hi (by omega)
  refine seq_cut (σ := Bool) (fun _ => [(1, .pointer (some ⟨X, 0, none⟩)), (2, .pointer (some ⟨M, 0, none⟩))]) (fun b w' => Ki w0 base p h g v w' v (t.1, t.2 || !b) ∧ (b = true ↔ x.cls = 0 ∨ 0 < x.cls ∧ x.cls < (p.l.length : Int) ∧ (at_ p.l x.cls).tag = 7)) ?_ ?_
  rotate_left
  · intro K hK
    have nd := New.drew w0
    have fin : ∀ b : Bool, (b = true ↔ x.cls = 0 ∨ 0 < x.cls ∧ x.cls < (p.l.length : Int) ∧ (at_ p.l x.cls).tag = 7) → ∀ K' : Value → World → Prop, (∀ w', Ki w0 base p h g v w' v (t.1, t.2 || !b) → K' (.tuple #[]) w') → callQ Tryd.prog 41 [.pointer (some ⟨h, 0, none⟩), .bool b] w0.drew K' := fun b hb K' hK' => by
      refine call_ (must_ok base p h g v t b w0.drew (c0.new nd)) ?_
      rintro e w2 ⟨rfl, k2⟩
      exact ⟨_, rfl, hK' w2 (((Ki.refl c0).new nd).then k2)⟩
    refine draw_ (w := w0) ok (.q 0 (.q 1 (.q 2 (.q 3 (.q 4 (.q 5 (.q 6 (.q 7 (.q 8 (.q 9 (.q 10 (.q 11 (.q 12 (.q 13 (.q 14 (.q 15 (.q 16 (.q 17 (.q 18 (.q 19 (.q 20 (.q 21 (.q 22 (.q 23 (.q 24 (.q 25 (.q 26 (.q 27 (.q 28 (.q 29 (.q 30 (.e 31 .done)))))))))))))))))))))))))))))))) [31] (New w0) (by kernel_rfl) (by kernel_rfl) (by kernel_rfl) (by kernel_rfl) (by kernel_rfl) nd ?_
    refine Exists.intro (some ⟨h, 0, none⟩) (And.intro (fun w'' hw => cell0 (hw.blk hX0)) ?_)
    refine Exists.intro x.cls (And.intro (fun w'' hw => cellB (hw.blk hM0) rfl) ?_)
    refine if_p (fun h0 => ?_) (fun h0 => ?_)
    · replace h0 : x.cls = 0 := h0
      exact fin true ⟨fun _ => .inl h0, fun _ => rfl⟩ _ fun w' k' => hK true _ _ ⟨rfl, rfl, trivial⟩ ⟨k', ⟨fun _ => .inl h0, fun _ => rfl⟩⟩
    · replace h0 : ¬ x.cls = 0 := h0
      refine Exists.intro x.cls (And.intro (fun w'' hw => cellB (hw.blk hM0) rfl) ?_)
      refine if_p (fun h1 => ?_) (fun h1 => ?_)
      · replace h1 : 0 < x.cls := h1
        refine Exists.intro x.cls (And.intro (fun w'' hw => cellB (hw.blk hM0) rfl) ?_)
        refine Exists.intro (some ⟨h, 0, none⟩) (And.intro (fun w'' hw => cell0 (hw.blk hX0)) ?_)
        refine Exists.intro p.A (Exists.intro p.l.length (Exists.intro p.c (And.intro (fun w'' hw => cellB (hw.blk c0.blk) rfl) ?_)))
        refine if_p (fun h2 => ?_) (fun h2 => ?_)
        · replace h2 : x.cls < (p.l.length : Int) := h2
          have hi : x.cls.toNat < p.l.length := by omega
          obtain ⟨a, ea, hok, hc⟩ := c0.cx.pl.at_ hi
          have e1 : at_ p.l ((x.cls.toNat : Nat) : Int) = at_ p.l x.cls := by rw [Int.toNat_of_nonneg (by omega)]
          rw [e1] at hc
          refine Exists.intro (some ⟨h, 0, none⟩) (And.intro (fun w'' hw => cell0 (hw.blk hX0)) ?_)
          refine Exists.intro p.A (Exists.intro p.l.length (Exists.intro p.c (And.intro (fun w'' hw => cellB (hw.blk c0.blk) rfl) ?_)))
          refine Exists.intro x.cls (And.intro (fun w'' hw => cellB (hw.blk hM0) rfl) ?_)
          refine And.intro (by omega) (And.intro h2 ?_)
          refine some_at ea ?_
          refine Exists.intro (at_ p.l x.cls).tag (And.intro (fun w'' hw => hw.cell (by have := hc 0 _ rfl; rw [add_zero_] at this ⊢; exact this)) ?_)
          have hb : decide ((at_ p.l x.cls).tag = 7) = true ↔ x.cls = 0 ∨ 0 < x.cls ∧ x.cls < (p.l.length : Int) ∧ (at_ p.l x.cls).tag = 7 := by
            rw [decide_eq_true_eq]
            exact ⟨fun e => .inr ⟨h1, h2, e⟩, fun e => (e.resolve_left h0).2.2⟩
          exact fin _ hb _ fun w' k' => hK _ _ _ ⟨rfl, rfl, trivial⟩ ⟨k', hb⟩
        · replace h2 : ¬ x.cls < (p.l.length : Int) := h2
          have hb : false = true ↔ x.cls = 0 ∨ 0 < x.cls ∧ x.cls < (p.l.length : Int) ∧ (at_ p.l x.cls).tag = 7 := ⟨fun e => (by cases e), fun e => absurd (e.resolve_left h0).2.1 h2⟩
          exact fin false hb _ fun w' k' => hK false _ _ ⟨rfl, rfl, trivial⟩ ⟨k', hb⟩
      · replace h1 : ¬ 0 < x.cls := h1
        have hb : false = true ↔ x.cls = 0 ∨ 0 < x.cls ∧ x.cls < (p.l.length : Int) ∧ (at_ p.l x.cls).tag = 7 := ⟨fun e => (by cases e), fun e => absurd (e.resolve_left h0).1 h1⟩
        exact fin false hb _ fun w' k' => hK false _ _ ⟨rfl, rfl, trivial⟩ ⟨k', hb⟩
  rintro b w1 fr1 ⟨k1, hb⟩
  have hX1 := k1.blk hX0 hXn
  have hM1 := k1.blk hM0 hMn
  refine Exists.intro (some ⟨h, 0, none⟩) (And.intro (cell0 hX1) ?_)
  refine Exists.intro x.from_ (And.intro (cellB hM1 rfl) ?_)
  refine Exists.intro x.to (And.intro (cellB hM1 rfl) ?_)
  refine Exists.intro x.at_ (And.intro (cellB hM1 rfl) ?_)
  refine Exists.intro x.cls (And.intro (cellB hM1 rfl) ?_)
  refine call_ (two1_ok base p h g v _ [x.from_, x.to, x.at_, x.cls] 4 w1 k1.wi rfl (by simp; omega)) ?_
  rintro e w2 ⟨rfl, v2, k2⟩
  refine ⟨_, rfl, ?_⟩
  exact ⟨rfl, v2, _, (((Ki.refl c).new n0).then k1).then k2, Wri.by Wri.four rfl hb⟩
theorem list_hnd (p : Po) (base : Nat) (h g : Nat) (v : Value) (t : WT) (vl : Value) (xs : List Hnd) (X : Nat)  (w : World) (c : Wi w base p h g v t) (hO : OkPool p.l) (hl : LRep hndR w (WH h g v) vl xs) (hX : w.heap[X]? = some (.cells #[.pointer (some ⟨h, 0, none⟩)] 78 (0, 0))) (hXn : ¬ WH h g v X)  (hm : t.1.length + (2 + csum cHnd xs) ≤ 1000000000) :
    Calls Tryd.prog 77 #[.pointer (some ⟨h, 0, none⟩), vl, zi 256, .func (.func 78) #[] #[.pointer (some ⟨X, 0, none⟩)]] w fun e w' => e = .returned (.tuple #[]) ∧ ∃ v' t', Ki w base p h g v w' v' t' ∧ Wri (hndsT p.l) (2 + csum cHnd xs) t xs t' := by
  obtain ⟨Al, cl, rfl, h43, _⟩ := hl.get hndOk (by decide)
  refine enter ok Tryd.func77 rfl rfl rfl ?_
  refine seq_cut (σ := Unit) (fun _ => [(0, .pointer (some ⟨h, 0, none⟩)), (1, .slice Al xs.length cl), (3, .func (.func 78) #[] #[.pointer (some ⟨X, 0, none⟩)])]) (fun _ w' => Ki w base p h g v w' v (t.1, t.2 || !decide (xs.length ≤ 256))) ?_ ?_
  rotate_left
  · intro K hK
    refine call_ (must_ok base p h g v t (decide ((xs.length : Int) ≤ 256)) w c) ?_
    rintro e w1 ⟨rfl, k1⟩
    refine ⟨_, rfl, ?_⟩
    have e1 : decide ((xs.length : Int) ≤ 256) = decide (xs.length ≤ 256) := decide_eq_decide.2 (by omega)
    rw [e1] at k1
    exact hK () _ _ ⟨rfl, rfl, rfl, trivial⟩ k1
  rintro _ w1 fr1 k1
  refine seq_cut (σ := Value × WT) (fun _ => [(0, .pointer (some ⟨h, 0, none⟩)), (1, .slice Al xs.length cl), (3, .func (.func 78) #[] #[.pointer (some ⟨X, 0, none⟩)])]) (fun s w' => Ki w base p h g v w' s.1 s.2 ∧ Wri n2 2 (t.1, t.2 || !decide (xs.length ≤ 256)) (xs.length : Int) s.2) ?_ ?_
  rotate_left
  · intro K hK
    refine Exists.intro (t.2 || !decide (xs.length ≤ 256)) (And.intro (cellB k1.wi.blk rfl) ?_)
    cases hbad : (t.2 || !decide (xs.length ≤ 256)) with
    | true =>
      rw [hbad] at k1 hK
      exact hK (v, (t.1, true)) _ _ ⟨rfl, rfl, rfl, trivial⟩ ⟨k1, Wri.bad rfl _ _⟩
    | false =>
      rw [hbad] at k1 hK
      refine call_ (two1_ok base p h g v (t.1, false) [(xs.length : Int)] 1 w1 k1.wi rfl (by simp; omega)) ?_
      rintro e w2 ⟨rfl, v2, k2⟩
      refine ⟨_, rfl, ?_⟩
      exact hK (v2, _) _ _ ⟨rfl, rfl, rfl, trivial⟩ ⟨k1.then k2, Wri.n2⟩
  rintro ⟨v2, t2⟩ w2 fr2 ⟨k2, wr2⟩
  dsimp only at k2 wr2
  refine seq_cut (σ := Unit) (fun _ => [(0, .pointer (some ⟨h, 0, none⟩)), (3, .func (.func 78) #[] #[.pointer (some ⟨X, 0, none⟩)]), (26, .slice Al xs.length cl), (27, zi (xs.length : Int)), (28, zi 0)]) (fun _ w' => w' = w2) ?_ ?_
  rotate_left
  · intro K hK
    exact hK () _ _ ⟨rfl, rfl, rfl, rfl, rfl, trivial⟩ rfl
  rintro _ wy fry hwy
  obtain rfl := hwy.symm
  refine den_loop (σ := Nat × Value × WT) (fun s => [(0, .pointer (some ⟨h, 0, none⟩)), (3, .func (.func 78) #[] #[.pointer (some ⟨X, 0, none⟩)]), (26, .slice Al xs.length cl), (27, zi (xs.length : Int)), (28, zi (s.1 : Int))])
    (fun m s wl => m + s.1 = xs.length ∧ Ki w base p h g v wl s.2.1 s.2.2 ∧ WLst (hndT p.l) 256 cHnd t xs s.1 s.2.2) xs.length (0, v2, t2) ⟨rfl, rfl, rfl, rfl, rfl, trivial⟩ ⟨rfl, k2, WLst.start (by decide) wr2⟩ ?_
  rintro m ⟨i, v3, t3⟩ wl frl ⟨hfuel, kl, hw⟩
  dsimp only at hfuel kl hw
  refine if_p (fun hlt => ?_) (fun hge => ?_)
  · replace hlt : (i : Int) < (xs.length : Int) := hlt
    have hi : i < xs.length := by omega
    obtain ⟨m, rfl⟩ : ∃ m', m = m' + 1 := ⟨m - 1, by omega⟩
    have inc := incN hi h43
    obtain ⟨Al', cl', he, _, gx⟩ := (kl.lrep hndOk (by decide) hl).get hndOk (by decide)
    cases he
    obtain ⟨a, cs, ea, hx, hc⟩ := gx i hi
    have hcs : csum cHnd (xs.take i) + cHnd xs[i] ≤ csum cHnd xs := by
      have h1 := csum_le cHnd xs (i + 1)
      rw [List.take_succ_eq_append_getElem hi, csum_snoc] at h1
      exact h1
    have hw1 := hw.1
    have hmem : xs[i] ∈ xs := List.getElem_mem hi
    obtain ⟨y, hy⟩ : ∃ y, y = xs[i] := ⟨_, rfl⟩
    rw [← hy] at hx hcs hmem
    have hx0 := hx
    obtain rfl := hx
    refine And.intro (by omega) (And.intro hlt ?_)
    refine some_at ea ?_
    refine loadN_row (vs := [zi y.from_, zi y.to, zi y.at_, zi y.cls]) (fun j u hu => by rw [Int.toNat_natCast]; exact hc j u hu) rfl ?_
    refine And.intro rfl ?_
    refine storeNew (vs := [zi y.from_, zi y.to, zi y.at_, zi y.cls]) (arr := #[zi 0, zi 0, zi 0, zi 0]) rfl (hndOk.one hx0) ?_
    intro w5 hb5 n5 s5
    have k5 := kl.new n5
    refine Exists.intro t3.2 (And.intro (cellB k5.wi.blk rfl) ?_)
    refine if_ (fun hbad => ?_) (fun hbad => ?_)
    · exact ⟨rfl, v3, t3, k5, hw.stop hbad⟩
    refine skip_ (thenF_ ?_)
    refine loadN_row (vs := [zi y.from_, zi y.to, zi y.at_, zi y.cls]) (rowB hb5) rfl ?_
    refine call_ (hnd1_ok p base h g v3 t3 _ y X w5 k5.wi (n5.blk (kl.blk hX hXn)) (kl.hid (Array.getElem?_eq_some_iff.1 hX).1 hXn) (hndOk.mod hx0 n5.mod) (by omega)) ?_
    rintro e w6 ⟨rfl, v6, t6, k6, wr6⟩
    refine ⟨_, rfl, ?_⟩
    exact ⟨m, (i + 1, v6, t6), by omega, ⟨rfl, rfl, rfl, rfl, inc, trivial⟩, by dsimp only; omega, k5.then k6, hw.step hi (by rw [← hy]; exact wr6)⟩
  · replace hge : ¬ (i : Int) < (xs.length : Int) := hge
    obtain rfl : i = xs.length := by omega
    exact ⟨rfl, v3, t3, kl, hw.done⟩

theorem add_ok (p : Po) (base : Nat) (h g : Nat) (v : Value) (t : WT) (h' g' : Nat) (v' : Value) (tp : WT) (w : World) (c : Wi w base p h g v t) (c' : Wi w base p h' g' v' tp) (hd : ∀ b, WH h' g' v' b → ¬ WH h g v b) (hm : t.1.length + (4 + tp.1.length) ≤ 1000000000) :
    Calls Tryd.prog 47 #[.pointer (some ⟨h, 0, none⟩), .pointer (some ⟨h', 0, none⟩)] w fun e w' => e = .returned (.tuple #[]) ∧ ∃ v2, Ki w base p h g v w' v2 (t.1 ++ (enc 4 (tp.1.length : Int) ++ tp.1), t.2 || tp.2) := by
  refine enter ok Tryd.func47 rfl rfl rfl ?_
  refine seq_cut (σ := Unit) (fun _ => [(0, .pointer (some ⟨h, 0, none⟩)), (1, .pointer (some ⟨h', 0, none⟩))]) (fun _ w' => Ki w base p h g v w' v (t.1, t.2 || tp.2)) ?_ ?_
  rotate_left
  · intro K hK
    refine Exists.intro tp.2 (And.intro (cellB c'.blk rfl) ?_)
    refine call_ (must_ok base p h g v t (!tp.2) w c) ?_
    rintro e w1 ⟨rfl, k1⟩
    refine ⟨_, rfl, ?_⟩
    rw [Bool.not_not] at k1
    exact hK () _ _ ⟨rfl, rfl, trivial⟩ k1
  rintro _ w1 fr1 k1
  have part : ∀ {w2 : World} {v2 : Value} {t2 : WT}, Ki w base p h g v w2 v2 t2 → Wi w2 base p h' g' v' tp := fun k => c'.other k.mod fun b _ e => ⟨c.at_ e, fun e' => hd b e' e⟩
  have c1' := part k1
  refine seq_cut (σ := Value) (fun _ => [(0, .pointer (some ⟨h, 0, none⟩)), (1, .pointer (some ⟨h', 0, none⟩))]) (fun v' w' => Ki w base p h g v w' v' (t.1 ++ enc 4 (tp.1.length : Int), t.2 || tp.2)) ?_ ?_
  rotate_left
  · intro K hK
    have nd := New.drew w1
    refine draw_ (w := w1) ok (.q 0 (.q 1 (.q 2 (.q 3 (.q 4 (.q 5 (.q 6 (.q 7 (.e 8 (.e 9 (.e 10 .done))))))))))) [10] (New w1) (by kernel_rfl) (by kernel_rfl) (by kernel_rfl) (by kernel_rfl) (by kernel_rfl) nd ?_
    refine Exists.intro (some ⟨g, 0, none⟩) (And.intro (fun w'' hw => cellB (hw.blk k1.wi.blk) rfl) ?_)
    refine Exists.intro (some ⟨g', 0, none⟩) (And.intro (fun w'' hw => cellB (hw.blk c1'.blk) rfl) ?_)
    refine call_ (Len_ok base g' v' tp.1 w1.drew (c1'.new nd).wr) ?_
    rintro e w2 ⟨rfl, hw2⟩
    obtain rfl := hw2.symm
    refine ⟨_, rfl, ?_⟩
    refine Exists.intro (New w1) ?_
    refine And.intro (fun _ h => h) ?_
    refine And.intro nd ?_
    refine eff_build (xs := [zi (tp.1.length : Int)]) rfl rfl rfl rfl rfl rfl rfl rfl rfl ?_
    refine Exists.intro (New w1) ?_
    refine And.intro (fun _ h => h) ?_
    refine And.intro (nd.trans (New.alloc _ _)) ?_
    refine call_ (WUn base p h g v _ 4 (tp.1.length : Int) w1.drew (k1.wi.new nd) (by dsimp only; omega)) ?_
    rintro e w3 ⟨rfl, v3, k3⟩
    refine ⟨_, rfl, ?_⟩
    have kk := (k1.new nd).then k3
    have e4 := noteU4 (t := (t.1, t.2 || tp.2)) (n := tp.1.length) (by omega)
    have e5 : allBs t.1 ((4 : Nat) : Int) false [(tp.1.length : Int)] = t.1 ++ enc 4 (tp.1.length : Int) := congrArg Prod.fst e4
    dsimp only at kk
    rw [e5] at kk
    exact hK v3 _ _ ⟨rfl, rfl, trivial⟩ kk
  rintro v2 w2 fr2 k2
  have c2' := part k2
  have nd := New.drew w2
  refine draw_ (w := w2) ok (.q 0 (.q 1 (.q 2 (.q 3 (.q 4 (.q 5 (.q 6 (.q 7 (.e 8 (.e 9 .done)))))))))) [9] (New w2) (by kernel_rfl) (by kernel_rfl) (by kernel_rfl) (by kernel_rfl) (by kernel_rfl) nd ?_
  refine Exists.intro (some ⟨g, 0, none⟩) (And.intro (fun w'' hw => cellB (hw.blk k2.wi.blk) rfl) ?_)
  refine Exists.intro (some ⟨g', 0, none⟩) (And.intro (fun w'' hw => cellB (hw.blk c2'.blk) rfl) ?_)
  refine call_ (All_ok base g' v' tp.1 w2.drew (c2'.new nd).wr (by omega)) ?_
  rintro e w3 ⟨u, rfl, own3, n3⟩
  obtain ⟨A3, c3, rfl, _, _, row3, _⟩ := own_slice own3
  refine ⟨_, rfl, ?_⟩
  refine Exists.intro (New w2) ?_
  refine And.intro (fun _ h => h) ?_
  refine And.intro (nd.trans n3) ?_
  have k3 := k2.new (nd.trans n3)
  refine call_ (WBn base p h g v2 _ A3 _ c3 tp.1 w3 k3.wi row3 rfl (by simp [enc_length]; omega)) ?_
  rintro e w4 ⟨rfl, v4, k4⟩
  refine ⟨_, rfl, ?_⟩
  have kk := k3.then k4
  dsimp only at kk
  rw [List.append_assoc] at kk
  exact ⟨rfl, v4, kk⟩
theorem code_ok (p : Po) (base : Nat) (h g : Nat) (v : Value) (t : WT) (cs : List Value) (x : Cod) (w : World) (c : Wi w base p h g v t) (hO : OkPool p.l) (hx : codR w (WH h g v) cs x) (hm : t.1.length + cCod x ≤ 1000000000) :
    Calls Tryd.prog 46 #[.pointer (some ⟨h, 0, none⟩), .agg cs.toArray] w fun e w' => e = .returned (.tuple #[]) ∧ ∃ v' t', Ki w base p h g v w' v' t' ∧ Wri (codT p.l) (cCod x) t x t' := by
  obtain ⟨_, _, _, rfl, hb0, hh0, hm0⟩ := hx
  obtain ⟨Ab, cb, rfl, hnb, _⟩ := hb0.get u8Ok (by decide)
  obtain ⟨Ah, ch, rfl, hnh, _⟩ := hh0.get hndOk (by decide)
  obtain ⟨Am, cm, rfl, hnm, _⟩ := hm0.get mpOk (by decide)
  have hcost : cCod x = 4 + (4 + x.bytes.length) + (2 + csum cHnd x.hands) + (10 + csum cMp x.maps) := rfl
  refine enter ok Tryd.func46 rfl rfl rfl ?_
  obtain ⟨X, hXe⟩ : ∃ X, X = w.heap.size := ⟨_, rfl⟩
  obtain ⟨M, hMe⟩ : ∃ M, M = w.heap.size + 1 := ⟨_, rfl⟩
  refine seq_cut (σ := Unit) (fun _ => [(2, .pointer (some ⟨X, 0, none⟩)), (3, .pointer (some ⟨M, 0, none⟩))]) (fun _ w' => New w w' ∧ w'.heap[X]? = some (.cells #[.pointer (some ⟨h, 0, none⟩)] 78 (0, 0)) ∧ w'.heap[M]? = some (.cells #[zi x.stack, zi x.locals, .slice Ab x.bytes.length cb, .slice Ah x.hands.length ch, .slice Am x.maps.length cm] 34 (0, 0))) ?_ ?_
  rotate_left
  · intro K hK
    have n1 := New.alloc w (.cells #[.pointer (some ⟨h, 0, none⟩)] 78)
    have h1 := heap_alloc_new w (.cells #[.pointer (some ⟨h, 0, none⟩)] 78)
    have s1 : (w.alloc (.cells #[.pointer (some ⟨h, 0, none⟩)] 78)).heap.size = w.heap.size + 1 := by simp
    have n2 := New.alloc (w.alloc (.cells #[.pointer (some ⟨h, 0, none⟩)] 78)) (.cells #[zi x.stack, zi x.locals, .slice Ab x.bytes.length cb, .slice Ah x.hands.length ch, .slice Am x.maps.length cm] 34)
    have h2 := heap_alloc_new (w.alloc (.cells #[.pointer (some ⟨h, 0, none⟩)] 78)) (.cells #[zi x.stack, zi x.locals, .slice Ab x.bytes.length cb, .slice Ah x.hands.length ch, .slice Am x.maps.length cm] 34)
    rw [s1] at h2
    refine hK () _ _ ⟨(by rw [hXe]; rfl), (show Value.pointer (some ⟨(w.alloc (.cells #[.pointer (some ⟨h, 0, none⟩)] 78)).heap.size, 0, none⟩) = _ by rw [s1, hMe]), trivial⟩ ⟨n1.trans n2, ?_, ?_⟩
    · rw [hXe]; exact n2.blk h1
    · rw [hMe]; exact h2
  rintro _ w0 fr0 ⟨n0, hX0, hM0⟩
  have c0 := c.new n0
  have hXn : ¬ WH h g v X := c.hi (by omega)
  have hMn : ¬ WH h g v M := c.hi (by omega)
  have hb0' := ((Ki.refl c).new n0).lrep u8Ok (by decide) hb0
  have hh0' := ((Ki.refl c).new n0).lrep hndOk (by decide) hh0
  have hm0' := ((Ki.refl c).new n0).lrep mpOk (by decide) hm0
  refine seq_cut (σ := Unit) (fun _ => [(2, .pointer (some ⟨X, 0, none⟩)), (3, .pointer (some ⟨M, 0, none⟩)), (4, zi (x.bytes.length : Int))]) (fun _ w' => w' = w0) ?_ ?_
  rotate_left
  · intro K hK
    refine Exists.intro Ab (Exists.intro x.bytes.length (Exists.intro cb (And.intro (cellB hM0 rfl) ?_)))
    exact hK () _ _ ⟨rfl, rfl, rfl, trivial⟩ rfl
  rintro _ wy fry hwy
  obtain rfl := hwy.symm
  refine seq_cut (σ := Bool) (fun _ => [(2, .pointer (some ⟨X, 0, none⟩)), (3, .pointer (some ⟨M, 0, none⟩)), (4, zi (x.bytes.length : Int))]) (fun b w' => Ki w0 base p h g v w' v (t.1, t.2 || !b) ∧ (b = true ↔ x.stack ≤ 64 ∧ x.locals ≤ 64 ∧ 0 < x.bytes.length ∧ x.bytes.length ≤ 4096)) ?_ ?_
  rotate_left
  · intro K hK
    have fin : ∀ b : Bool, (b = true ↔ x.stack ≤ 64 ∧ x.locals ≤ 64 ∧ 0 < x.bytes.length ∧ x.bytes.length ≤ 4096) → ∀ K' : Value → World → Prop, (∀ w', Ki w0 base p h g v w' v (t.1, t.2 || !b) → K' (.tuple #[]) w') → callQ Tryd.prog 41 [.pointer (some ⟨h, 0, none⟩), .bool b] w0 K' := fun b hb K' hK' => by
      refine call_ (must_ok base p h g v t b w0 c0) ?_
      rintro e w2 ⟨rfl, k2⟩
      exact ⟨_, rfl, hK' w2 k2⟩
    refine Exists.intro (some ⟨h, 0, none⟩) (And.intro (cell0 hX0) ?_)
    refine Exists.intro x.stack (And.intro (cellB hM0 rfl) ?_)
    refine if_p (fun h1 => ?_) (fun h1 => ?_)
    · replace h1 : x.stack ≤ 64 := h1
      refine Exists.intro x.locals (And.intro (cellB hM0 rfl) ?_)
      refine if_p (fun h2 => ?_) (fun h2 => ?_)
      · replace h2 : x.locals ≤ 64 := h2
        refine if_p (fun h3 => ?_) (fun h3 => ?_)
        · replace h3 : 0 < (x.bytes.length : Int) := h3
          have hb : decide ((x.bytes.length : Int) ≤ 4096) = true ↔ x.stack ≤ 64 ∧ x.locals ≤ 64 ∧ 0 < x.bytes.length ∧ x.bytes.length ≤ 4096 := by
            rw [decide_eq_true_eq]
            exact ⟨fun e => ⟨h1, h2, by omega, by omega⟩, fun e => by omega⟩
          exact fin _ hb _ fun w' k' => hK _ _ _ ⟨rfl, rfl, rfl, trivial⟩ ⟨k', hb⟩
        · replace h3 : ¬ 0 < (x.bytes.length : Int) := h3
          have hb : false = true ↔ x.stack ≤ 64 ∧ x.locals ≤ 64 ∧ 0 < x.bytes.length ∧ x.bytes.length ≤ 4096 := ⟨fun e => (by cases e), fun e => absurd e.2.2.1 (by omega)⟩
          exact fin false hb _ fun w' k' => hK false _ _ ⟨rfl, rfl, rfl, trivial⟩ ⟨k', hb⟩
      · replace h2 : ¬ x.locals ≤ 64 := h2
        have hb : false = true ↔ x.stack ≤ 64 ∧ x.locals ≤ 64 ∧ 0 < x.bytes.length ∧ x.bytes.length ≤ 4096 := ⟨fun e => (by cases e), fun e => absurd e.2.1 h2⟩
        exact fin false hb _ fun w' k' => hK false _ _ ⟨rfl, rfl, rfl, trivial⟩ ⟨k', hb⟩
    · replace h1 : ¬ x.stack ≤ 64 := h1
      have hb : false = true ↔ x.stack ≤ 64 ∧ x.locals ≤ 64 ∧ 0 < x.bytes.length ∧ x.bytes.length ≤ 4096 := ⟨fun e => (by cases e), fun e => absurd e.1 h1⟩
      exact fin false hb _ fun w' k' => hK false _ _ ⟨rfl, rfl, rfl, trivial⟩ ⟨k', hb⟩
  rintro b w1 fr1 ⟨k1, hb⟩
  have c1 := k1.wi
  have hX1 := k1.blk hX0 hXn
  have hM1 := k1.blk hM0 hMn
  have hb1 := k1.lrep u8Ok (by decide) hb0'
  have hh1 := k1.lrep hndOk (by decide) hh0'
  have hm1 := k1.lrep mpOk (by decide) hm0'
  have k01 := ((Ki.refl c).new n0).then k1
  have hXl : X < w1.heap.size := (Array.getElem?_eq_some_iff.1 hX1).1
  have kk1 := Ki.refl c1
  refine seq_cut (σ := Value × WT) (fun _ => [(2, .pointer (some ⟨X, 0, none⟩)), (3, .pointer (some ⟨M, 0, none⟩)), (4, zi (x.bytes.length : Int))]) (fun s w' => Ki w1 base p h g v w' s.1 s.2 ∧ Wri (seqT n2 n2) (4) (t.1, t.2 || !b) (x.stack, x.locals) s.2) ?_ ?_
  rotate_left
  · intro K hK
    have hX1 := kk1.blk hX1 hXn
    have hM1 := kk1.blk hM1 hMn
    refine Exists.intro (some ⟨h, 0, none⟩) (And.intro (cell0 hX1) ?_)
    refine Exists.intro x.stack (And.intro (cellB hM1 rfl) ?_)
    refine Exists.intro x.locals (And.intro (cellB hM1 rfl) ?_)
    refine call_ (two1_ok base p h g v (t.1, t.2 || !b) [x.stack, x.locals] 2 w1 kk1.wi rfl (by simp; omega)) ?_
    rintro e w2 ⟨rfl, v2, k2⟩
    refine ⟨_, rfl, ?_⟩
    exact hK (v2, _) _ _ ⟨rfl, rfl, rfl, trivial⟩ ⟨kk1.then k2, Wri.two⟩
  rintro ⟨v2, t2⟩ w2 fr2 ⟨kk2, q2⟩
  dsimp only at kk2 q2
  have p2 := q2.1
  try dsimp only at p2
  refine seq_cut (σ := Value) (fun _ => [(2, .pointer (some ⟨X, 0, none⟩)), (3, .pointer (some ⟨M, 0, none⟩)), (4, zi (x.bytes.length : Int))]) (fun v' w' => Ki w1 base p h g v w' v' (t2.1 ++ enc 4 (x.bytes.length : Int), t2.2)) ?_ ?_
  rotate_left
  · intro K hK
    have hX2 := kk2.blk hX1 hXn
    have hM2 := kk2.blk hM1 hMn
    refine Exists.intro (some ⟨h, 0, none⟩) (And.intro (cell0 hX2) ?_)
    refine Exists.intro (some ⟨g, 0, none⟩) (And.intro (cellB kk2.wi.blk rfl) ?_)
    refine call_ (WUn base p h g v2 t2 4 (x.bytes.length : Int) w2 kk2.wi (by omega)) ?_
    rintro e w3 ⟨rfl, v3, k3⟩
    refine ⟨_, rfl, ?_⟩
    have e5 : allBs t2.1 ((4 : Nat) : Int) false [(x.bytes.length : Int)] = t2.1 ++ enc 4 (x.bytes.length : Int) := congrArg Prod.fst (noteU4 (t := t2) (n := x.bytes.length) (by omega))
    rw [e5] at k3
    exact hK v3 _ _ ⟨rfl, rfl, rfl, trivial⟩ (kk2.then k3)
  rintro v3 w3 fr3 kk3
  refine seq_cut (σ := Value × WT) (fun _ => [(2, .pointer (some ⟨X, 0, none⟩)), (3, .pointer (some ⟨M, 0, none⟩)), (4, zi (x.bytes.length : Int))]) (fun s w' => Ki w1 base p h g v w' s.1 s.2 ∧ Wri blobT (4 + x.bytes.length) t2 x.bytes s.2) ?_ ?_
  rotate_left
  · intro K hK
    have hX3 := kk3.blk hX1 hXn
    have hM3 := kk3.blk hM1 hMn
    have nd := New.drew w3
    refine draw_ (w := w3) ok (.q 0 (.q 1 (.q 2 (.q 3 (.q 4 (.q 5 (.e 6 .done))))))) [6] (New w3) (by kernel_rfl) (by kernel_rfl) (by kernel_rfl) (by kernel_rfl) (by kernel_rfl) nd ?_
    refine Exists.intro (some ⟨h, 0, none⟩) (And.intro (fun w'' hw => cell0 (hw.blk hX3)) ?_)
    refine Exists.intro (some ⟨g, 0, none⟩) (And.intro (fun w'' hw => cellB (hw.blk kk3.wi.blk) rfl) ?_)
    refine Exists.intro Ab (Exists.intro x.bytes.length (Exists.intro cb (And.intro (fun w'' hw => cellB (hw.blk hM3) rfl) ?_)))
    have kd := kk3.new nd
    obtain ⟨_, _, he, row, _⟩ := bytes_row (LRep.weak (S' := fun b => False) u8Ok (kd.lrep u8Ok (by decide) hb1) fun _ _ e => e.elim)
    cases he
    refine call_ (WBn base p h g v3 _ Ab x.bytes.length cb x.bytes w3.drew kd.wi row rfl (by simp [enc_length]; omega)) ?_
    rintro e w4 ⟨rfl, v4, k4⟩
    refine ⟨_, rfl, ?_⟩
    dsimp only at k4
    rw [List.append_assoc] at k4
    exact hK (v4, _) _ _ ⟨rfl, rfl, rfl, trivial⟩ ⟨kd.then k4, Wri.blob (by omega)⟩
  rintro ⟨v4, t4⟩ w4 fr4 ⟨kk4, q4⟩
  dsimp only at kk4 q4
  have p4 := q4.1
  refine seq_cut (σ := Value × WT) (fun _ => [(2, .pointer (some ⟨X, 0, none⟩)), (3, .pointer (some ⟨M, 0, none⟩))]) (fun s w' => Ki w1 base p h g v w' s.1 s.2 ∧ Wri (hndsT p.l) (2 + csum cHnd x.hands) t4 x.hands s.2) ?_ ?_
  rotate_left
  · intro K hK
    have hX4 := kk4.blk hX1 hXn
    have hM4 := kk4.blk hM1 hMn
    refine Exists.intro (some ⟨h, 0, none⟩) (And.intro (cell0 hX4) ?_)
    refine Exists.intro Ah (Exists.intro x.hands.length (Exists.intro ch (And.intro (cellB hM4 rfl) ?_)))
    refine call_ (list_hnd p base h g v4 t4 _ x.hands X w4 kk4.wi hO (kk4.lrep hndOk (by decide) hh1) hX4 (kk4.hid hXl hXn) (by omega)) ?_
    rintro e w5 ⟨rfl, v5, t5, k5, wr5⟩
    refine ⟨_, rfl, ?_⟩
    exact hK (v5, t5) _ _ ⟨rfl, rfl, trivial⟩ ⟨kk4.then k5, wr5⟩
  rintro ⟨v5, t5⟩ w5 fr5 ⟨kk5, q5⟩
  dsimp only at kk5 q5
  have p5 := q5.1
  try dsimp only at p5
  -- behind its handlers
  have hX5 := kk5.blk hX1 hXn
  have hM5 := kk5.blk hM1 hMn
  have fin : ∀ {v' : Value} {t' : WT} {w' : World}, Ki w1 base p h g v w' v' t' → Wri (optT p.l) (10 + csum cMp x.maps) t5 x.maps t' → ∃ v' t', Ki w base p h g v w' v' t' ∧ Wri (codT p.l) (cCod x) t x t' := fun kk q => by
    refine ⟨_, _, k01.then kk, ?_⟩
    have h1 := Wri.by (b := t.2 || !b) (p := b) (P := fun c : Cod => c.stack ≤ 64 ∧ c.locals ≤ 64 ∧ 0 < c.bytes.length ∧ c.bytes.length ≤ 4096) (f := fun c : Cod => (c.stack, c.locals, c.bytes, c.hands, c.maps)) (hf := fun x y _ _ e => by
      cases x; cases y; cases e; rfl) (Wri.assoc (q2.seq (q4.seq (q5.seq q)))) rfl hb
    exact Wri.le h1 (by rw [hcost]; omega)
  refine seq_cut (σ := Unit) (fun _ => [(2, .pointer (some ⟨X, 0, none⟩)), (3, .pointer (some ⟨M, 0, none⟩))]) (fun _ w' => w' = w5 ∧ x.maps ≠ []) ?_ ?_
  rotate_left
  · intro K hK
    refine Exists.intro Am (Exists.intro x.maps.length (Exists.intro cm (And.intro (cellB hM5 rfl) ?_)))
    refine if_p (fun h0 => ?_) (fun h0 => ?_)
    · replace h0 : (x.maps.length : Int) = 0 := h0
      have hnil : x.maps = [] := List.length_eq_zero_iff.1 (by omega)
      refine Exists.intro (some ⟨h, 0, none⟩) (And.intro (cell0 hX5) ?_)
      refine call_ (two1_ok base p h g v5 t5 [0] 1 w5 kk5.wi rfl (by simp; omega)) ?_
      rintro e w8 ⟨rfl, v8, k8⟩
      refine ⟨_, rfl, ?_⟩
      refine ⟨rfl, fin (kk5.then k8) ?_⟩
      have q := (Wri.n2 (t := t5) (n := 0))
      refine ⟨by have := q.1; omega, q.2.imp (fun e => ⟨e.1, e.2.imp id fun e' => absurd (n2_ok (by decide) (by decide)) e'⟩) fun e => ⟨e.1, e.2.1, .inl hnil, ?_⟩⟩
      rw [e.2.2.2, hnil]
      rfl
    · replace h0 : ¬ (x.maps.length : Int) = 0 := h0
      exact hK () _ _ ⟨rfl, rfl, trivial⟩ ⟨rfl, fun e => h0 (by rw [e]; rfl)⟩
  rintro _ wz frz ⟨hwz, hne⟩
  obtain rfl := hwz.symm
  refine seq_cut (σ := Value × WT) (fun _ => [(2, .pointer (some ⟨X, 0, none⟩)), (3, .pointer (some ⟨M, 0, none⟩))]) (fun s w' => Ki w1 base p h g v w' s.1 s.2 ∧ Wri (n2) (2) t5 1 s.2) ?_ ?_
  rotate_left
  · intro K hK
    have hX5 := kk5.blk hX1 hXn
    have hM5 := kk5.blk hM1 hMn
    refine Exists.intro (some ⟨h, 0, none⟩) (And.intro (cell0 hX5) ?_)
    refine call_ (two1_ok base p h g v5 t5 [1] 1 w5 kk5.wi rfl (by simp; omega)) ?_
    rintro e w6 ⟨rfl, v6, k6⟩
    refine ⟨_, rfl, ?_⟩
    exact hK (v6, _) _ _ ⟨rfl, rfl, trivial⟩ ⟨kk5.then k6, Wri.n2⟩
  rintro ⟨v6, t6⟩ w6 fr6 ⟨kk6, q6⟩
  dsimp only at kk6 q6
  have p6 := q6.1
  try dsimp only at p6
  refine seq_cut (σ := Value × WT) (fun _ => [(2, .pointer (some ⟨X, 0, none⟩)), (3, .pointer (some ⟨M, 0, none⟩))]) (fun s w' => Ki w1 base p h g v w' s.1 s.2 ∧ Wri (utfT p.l) (2) t6 tableS s.2) ?_ ?_
  rotate_left
  · intro K hK
    have hX6 := kk6.blk hX1 hXn
    have hM6 := kk6.blk hM1 hMn
    refine Exists.intro (some ⟨h, 0, none⟩) (And.intro (cell0 hX6) ?_)
    refine call_ (wtext_ok p base h g v6 t6 tableS w6 kk6.wi (by omega)) ?_
    rintro e w7 ⟨rfl, v7, t7, k7, wr7⟩
    refine ⟨_, rfl, ?_⟩
    exact hK (v7, t7) _ _ ⟨rfl, rfl, trivial⟩ ⟨kk6.then k7, wr7⟩
  rintro ⟨v7, t7⟩ w7 fr7 ⟨kk7, q7⟩
  dsimp only at kk7 q7
  have p7 := q7.1
  try dsimp only at p7
  have hX7 := kk7.blk hX1 hXn
  have hM7 := kk7.blk hM1 hMn
  refine seq_cut (σ := Nat × Nat) (fun s => [(2, .pointer (some ⟨X, 0, none⟩)), (3, .pointer (some ⟨M, 0, none⟩)), (5, .pointer (some ⟨s.1, 0, none⟩))]) (fun s w' => New w7 w' ∧ Wi w' base p s.1 s.2 (.slice none 0 0) ([], false) ∧ w7.heap.size ≤ s.1 ∧ w7.heap.size ≤ s.2) ?_ ?_
  rotate_left
  · intro K hK
    refine Exists.intro (some ⟨h, 0, none⟩) (And.intro (cell0 hX7) ?_)
    refine call_ (part_ok base p h g v7 t7 w7 kk7.wi) ?_
    rintro e wp ⟨h', hne', rfl, cp, hle, np⟩
    refine ⟨_, rfl, ?_⟩
    exact hK (h', w7.heap.size) _ _ ⟨rfl, rfl, rfl, trivial⟩ ⟨np, cp, hle, Nat.le_refl _⟩
  rintro ⟨h', g'⟩ wp frp ⟨np, cp, hh', hg'⟩
  dsimp only at cp hh' hg'
  have kp := kk7.new np
  have hXp := np.blk hX7
  have hMp := np.blk hM7
  have own' : ∀ b, WH h' g' (.slice none 0 0) b → w7.heap.size ≤ b := fun b e => by
    rcases e with (e | e) | e
    · omega
    · cases e
    · omega
  refine seq_cut (σ := Value × WT) (fun s => [(2, .pointer (some ⟨X, 0, none⟩)), (3, .pointer (some ⟨M, 0, none⟩)), (5, .pointer (some ⟨h', 0, none⟩))]) (fun s w' => Ki wp base p h' g' (.slice none 0 0) w' s.1 s.2 ∧ Wri (mapsT p.l) (2 + csum cMp x.maps) ([], false) x.maps s.2) ?_ ?_
  rotate_left
  · intro K hK
    refine Exists.intro Am (Exists.intro x.maps.length (Exists.intro cm (And.intro (cellB hMp rfl) ?_)))
    refine call_ (maps_ok p base h' g' (.slice none 0 0) ([], false) _ x.maps wp cp hO (LRep.up mpOk (by decide) (kk7.lrep mpOk (by decide) hm1) np own') (by simp; omega)) ?_
    rintro e wq ⟨rfl, vq, tq, kq, wrq⟩
    refine ⟨_, rfl, ?_⟩
    exact hK (vq, tq) _ _ ⟨rfl, rfl, rfl, trivial⟩ ⟨kq, wrq⟩
  rintro ⟨vq, tq⟩ wq frq ⟨kq, wrq⟩
  dsimp only at kq wrq
  have hlq := wrq.1
  simp only [List.length_nil] at hlq
  have ownq : ∀ b, WH h' g' vq b → w7.heap.size ≤ b := fun b e => by
    rcases e with (e | e) | e
    · omega
    · rcases kq.st b e.symm with e1 | e1
      · cases e1
      · exact Nat.le_trans np.size e1
    · omega
  have hbw7 := kk7.wi.bw
  have cw : Wi wq base p h g v7 t7 := kp.wi.other kq.mod fun b _ e => ⟨Nat.le_trans hbw7 (own' b e), kk7.wi.hi (own' b e)⟩
  have hXq := kq.blk hXp fun e => by
    have h1 := own' X e
    have h2 := (Array.getElem?_eq_some_iff.1 hX7).1
    omega
  refine Exists.intro (some ⟨h, 0, none⟩) (And.intro (cell0 hXq) ?_)
  refine call_ (add_ok p base h g v7 t7 h' g' vq tq wq cw kq.wi (fun b e => kk7.wi.hi (ownq b e)) (by omega)) ?_
  rintro e wr ⟨rfl, vr, kr⟩
  refine ⟨_, rfl, ?_⟩
  have hsz7 := kk7.mod.size
  have kall := kp.also kq.mod (fun b e => Nat.le_trans hsz7 (own' b e)) kr
  have qr := Wri.part (t := t7) wrq
  exact ⟨rfl, fin kall (Wri.le (Wri.opt q6 q7 qr hne) (by omega))⟩

end Go.Proofs.YtdcaafldnbcdkaaDoor.Class

/-! ### KWrite5 -/
namespace Go.Proofs.YtdcaafldnbcdkaaDoor.Class
open Go Go.Proofs.YtdcaafldnbcdkaaDoor Go.Proofs.YtdcaafldnbcdkaaDoor.Eng Go.Proofs Go.Proofs.YtdcaafldnbcdkaaDoor.Word Go.Proofs.YtdcaafldnbcdkaaDoor.Fmt
open Go.Proofs.YtdcaafldnbcdkaaDoor.Pool (Ent at_ poolF strV entC entV EntOk Pl OkPool both own_low tagAt)
set_option maxRecDepth 10000

theorem andNot_small {a m : Int} (ha : i64 a) (hm : m = 8 ∨ m = 40) (h : bits .andNot .i64 a m = 0) : 0 ≤ a ∧ a ≤ 40 := by
  have h1 : IntKind.i64.wrap ((BitVec.ofInt 64 a &&& ~~~ (BitVec.ofInt 64 m)).toNat : Int) = 0 := h
  rw [IntKind.wrap_i64] at h1
  have hlt := (BitVec.ofInt 64 a &&& ~~~ (BitVec.ofInt 64 m)).isLt
  have h2 : (BitVec.ofInt 64 a &&& ~~~ (BitVec.ofInt 64 m)).toNat = 0 := by omega
  have h3 : BitVec.ofInt 64 a &&& ~~~ (BitVec.ofInt 64 m) = 0#64 := BitVec.eq_of_toNat_eq (by rw [h2]; rfl)
  have h4 : BitVec.ofInt 64 a = BitVec.ofInt 64 a &&& BitVec.ofInt 64 m := by
    ext i hi
    have := congrArg (fun x : BitVec 64 => x[i]) h3
    simp only [BitVec.getElem_and, BitVec.getElem_not, BitVec.getElem_zero] at this ⊢
    revert this
    cases (BitVec.ofInt 64 a)[i] <;> cases (BitVec.ofInt 64 m)[i] <;> simp
  have h5 : (BitVec.ofInt 64 a).toNat ≤ 40 := by
    rw [h4, BitVec.toNat_and]
    refine Nat.le_trans Nat.and_le_right ?_
    rcases hm with rfl | rfl <;> decide
  rw [BitVec.toNat_ofInt] at h5
  unfold i64 at ha
  omega
theorem andNot_all : ∀ n : Fin 41, (bits .andNot .i64 (n.val : Int) 8 = 0 ↔ (n.val = 0 ∨ n.val = 8)) ∧ (bits .andNot .i64 (n.val : Int) 40 = 0 ↔ (n.val = 0 ∨ n.val = 8 ∨ n.val = 32 ∨ n.val = 40)) := by decide
theorem andNot8 {a : Int} (ha : i64 a) : decide (bits .andNot .i64 a 8 = 0) = true ↔ a = 0 ∨ a = 8 := by
  rw [decide_eq_true_eq]
  by_cases hr : 0 ≤ a ∧ a ≤ 40
  · have := (andNot_all ⟨a.toNat, by omega⟩).1
    simp only [Int.toNat_of_nonneg hr.1] at this
    rw [this]
    omega
  · exact ⟨fun h => absurd (andNot_small ha (.inl rfl) h) hr, fun h => by omega⟩
theorem andNot40 {a : Int} (ha : i64 a) : decide (bits .andNot .i64 a 40 = 0) = true ↔ a = 0 ∨ a = 8 ∨ a = 32 ∨ a = 40 := by
  rw [decide_eq_true_eq]
  by_cases hr : 0 ≤ a ∧ a ≤ 40
  · have := (andNot_all ⟨a.toNat, by omega⟩).2
    simp only [Int.toNat_of_nonneg hr.1] at this
    rw [this]
    omega
  · exact ⟨fun h => absurd (andNot_small ha (.inr rfl) h) hr, fun h => by omega⟩
theorem fld1_ok (p : Po) (base : Nat) (h g : Nat) (v : Value) (t : WT) (cs : List Value) (x : Fld) (X : Nat) (w : World) (c : Wi w base p h g v t) (hX : w.heap[X]? = some (.cells #[.pointer (some ⟨h, 0, none⟩)] 78 (0, 0))) (hXn : ¬ WH h g v X) (hx : fldR w (WH h g v) cs x) (hf : i64 x.acc) (hm : t.1.length + cFld x ≤ 1000000000) :
    Calls Tryd.prog 40 #[.agg cs.toArray, .pointer (some ⟨X, 0, none⟩)] w fun e w' => e = .returned (.tuple #[]) ∧ ∃ v' t', Ki w base p h g v w' v' t' ∧ Wri (fldT p.l) (cFld x) t x t' := by
  obtain rfl := hx
  unfold cFld at hm
  refine enter ok Tryd.func40 rfl rfl rfl ?_
  obtain ⟨M, hM⟩ : ∃ M, M = w.heap.size := ⟨_, rfl⟩
  refine seq_cut (σ := Unit) (fun _ => [(1, .pointer (some ⟨X, 0, none⟩)), (2, .pointer (some ⟨M, 0, none⟩))]) (fun _ w' => New w w' ∧ w'.heap[M]? = some (.cells #[zi x.acc, strV x.name, strV x.typ] 44 (0, 0))) ?_ ?_
  rotate_left
  · intro K hK
    rw [hM] at hK
    exact hK () _ _ ⟨rfl, rfl, trivial⟩ ⟨New.alloc w _, heap_alloc_new w (.cells #[zi x.acc, strV x.name, strV x.typ] 44)⟩
  rintro _ w0 fr0 ⟨n0, hM0⟩
  have c0 := c.new n0
  have hX0 := n0.blk hX
  have hMn : ¬ WH h g v M := c.hi (by omega)
  refine seq_cut (σ := Bool) (fun _ => [(1, .pointer (some ⟨X, 0, none⟩)), (2, .pointer (some ⟨M, 0, none⟩))]) (fun b w' => Ki w0 base p h g v w' v (t.1, t.2 || !b) ∧ (b = true ↔ x.acc = 0 ∨ x.acc = 8)) ?_ ?_
  rotate_left
  · intro K hK
    refine Exists.intro (some ⟨h, 0, none⟩) (And.intro (cell0 hX0) ?_)
    refine Exists.intro x.acc (And.intro (cellB hM0 rfl) ?_)
    refine call_ (must_ok base p h g v t (decide (bits .andNot .i64 x.acc 8 = 0)) w0 c0) ?_
    rintro e w1 ⟨rfl, k1⟩
    refine ⟨_, rfl, ?_⟩
    exact hK _ _ _ ⟨rfl, rfl, trivial⟩ ⟨k1, andNot8 hf⟩
  rintro b w1 fr1 ⟨k1, hb⟩
  have c1 := k1.wi
  have hX1 := k1.blk hX0 hXn
  have hM1 := k1.blk hM0 hMn
  have k01 := ((Ki.refl c).new n0).then k1
  have kk1 := Ki.refl c1
  refine seq_cut (σ := Value × WT) (fun _ => [(1, .pointer (some ⟨X, 0, none⟩)), (2, .pointer (some ⟨M, 0, none⟩))]) (fun s w' => Ki w1 base p h g v w' s.1 s.2 ∧ Wri (n2) (2) (t.1, t.2 || !b) x.acc s.2) ?_ ?_
  rotate_left
  · intro K hK
    have hX1 := kk1.blk hX1 hXn
    have hM1 := kk1.blk hM1 hMn
    refine Exists.intro (some ⟨h, 0, none⟩) (And.intro (cell0 hX1) ?_)
    refine Exists.intro x.acc (And.intro (cellB hM1 rfl) ?_)
    refine call_ (two1_ok base p h g v (t.1, t.2 || !b) [x.acc] 1 w1 kk1.wi rfl (by simp; omega)) ?_
    rintro e w2 ⟨rfl, v2, k2⟩
    refine ⟨_, rfl, ?_⟩
    exact hK (v2, _) _ _ ⟨rfl, rfl, trivial⟩ ⟨kk1.then k2, Wri.n2⟩
  rintro ⟨v2, t2⟩ w2 fr2 ⟨kk2, q2⟩
  dsimp only at kk2 q2
  have p2 := q2.1
  try dsimp only at p2
  refine seq_cut (σ := Value × WT) (fun _ => [(1, .pointer (some ⟨X, 0, none⟩)), (2, .pointer (some ⟨M, 0, none⟩))]) (fun s w' => Ki w1 base p h g v w' s.1 s.2 ∧ Wri (utfT p.l) (2) t2 x.name s.2) ?_ ?_
  rotate_left
  · intro K hK
    have hX2 := kk2.blk hX1 hXn
    have hM2 := kk2.blk hM1 hMn
    refine Exists.intro (some ⟨h, 0, none⟩) (And.intro (cell0 hX2) ?_)
    refine Exists.intro (⟨x.name.toArray⟩ : ByteArray) (And.intro (cellB hM2 rfl) ?_)
    refine call_ (wtext_ok p base h g v2 t2 x.name w2 kk2.wi (by omega)) ?_
    rintro e w3 ⟨rfl, v3, t3, k3, wr3⟩
    refine ⟨_, rfl, ?_⟩
    exact hK (v3, t3) _ _ ⟨rfl, rfl, trivial⟩ ⟨kk2.then k3, wr3⟩
  rintro ⟨v3, t3⟩ w3 fr3 ⟨kk3, q3⟩
  dsimp only at kk3 q3
  have p3 := q3.1
  try dsimp only at p3
  refine seq_cut (σ := Value × WT) (fun _ => [(1, .pointer (some ⟨X, 0, none⟩)), (2, .pointer (some ⟨M, 0, none⟩))]) (fun s w' => Ki w1 base p h g v w' s.1 s.2 ∧ Wri (utfT p.l) (2) t3 x.typ s.2) ?_ ?_
  rotate_left
  · intro K hK
    have hX3 := kk3.blk hX1 hXn
    have hM3 := kk3.blk hM1 hMn
    refine Exists.intro (some ⟨h, 0, none⟩) (And.intro (cell0 hX3) ?_)
    refine Exists.intro (⟨x.typ.toArray⟩ : ByteArray) (And.intro (cellB hM3 rfl) ?_)
    refine call_ (wtext_ok p base h g v3 t3 x.typ w3 kk3.wi (by omega)) ?_
    rintro e w4 ⟨rfl, v4, t4, k4, wr4⟩
    refine ⟨_, rfl, ?_⟩
    exact hK (v4, t4) _ _ ⟨rfl, rfl, trivial⟩ ⟨kk3.then k4, wr4⟩
  rintro ⟨v4, t4⟩ w4 fr4 ⟨kk4, q4⟩
  dsimp only at kk4 q4
  have p4 := q4.1
  try dsimp only at p4
  have hX4 := kk4.blk hX1 hXn
  have hM4 := kk4.blk hM1 hMn
  refine Exists.intro (some ⟨h, 0, none⟩) (And.intro (cell0 hX4) ?_)
  refine call_ (two1_ok base p h g v4 t4 [0] 1 w4 kk4.wi rfl (by simp; omega)) ?_
  rintro e w5 ⟨rfl, v5, k5⟩
  refine ⟨_, rfl, ?_⟩
  exact ⟨rfl, v5, _, (k01.then kk4).then k5, Wri.le (Wri.by (q2.seq (q3.seq (q4.seq Wri.n2))) rfl hb) (by unfold cFld; omega)⟩
theorem list_fld (p : Po) (base : Nat) (h g : Nat) (v : Value) (t : WT) (vl : Value) (xs : List Fld) (X : Nat)  (w : World) (c : Wi w base p h g v t) (hO : OkPool p.l) (hl : LRep fldR w (WH h g v) vl xs) (hX : w.heap[X]? = some (.cells #[.pointer (some ⟨h, 0, none⟩)] 78 (0, 0))) (hXn : ¬ WH h g v X) (hf : ∀ x ∈ xs, i64 x.acc)  (hm : t.1.length + (2 + csum cFld xs) ≤ 1000000000) :
    Calls Tryd.prog 39 #[.pointer (some ⟨h, 0, none⟩), vl, zi 256, .func (.func 40) #[] #[.pointer (some ⟨X, 0, none⟩)]] w fun e w' => e = .returned (.tuple #[]) ∧ ∃ v' t', Ki w base p h g v w' v' t' ∧ Wri (fldsT p.l) (2 + csum cFld xs) t xs t' := by
  obtain ⟨Al, cl, rfl, h43, _⟩ := hl.get fldOk (by decide)
  refine enter ok Tryd.func39 rfl rfl rfl ?_
  refine seq_cut (σ := Unit) (fun _ => [(0, .pointer (some ⟨h, 0, none⟩)), (1, .slice Al xs.length cl), (3, .func (.func 40) #[] #[.pointer (some ⟨X, 0, none⟩)])]) (fun _ w' => Ki w base p h g v w' v (t.1, t.2 || !decide (xs.length ≤ 256))) ?_ ?_
  rotate_left
  · intro K hK
    refine call_ (must_ok base p h g v t (decide ((xs.length : Int) ≤ 256)) w c) ?_
    rintro e w1 ⟨rfl, k1⟩
    refine ⟨_, rfl, ?_⟩
    have e1 : decide ((xs.length : Int) ≤ 256) = decide (xs.length ≤ 256) := decide_eq_decide.2 (by omega)
    rw [e1] at k1
    exact hK () _ _ ⟨rfl, rfl, rfl, trivial⟩ k1
  rintro _ w1 fr1 k1
  refine seq_cut (σ := Value × WT) (fun _ => [(0, .pointer (some ⟨h, 0, none⟩)), (1, .slice Al xs.length cl), (3, .func (.func 40) #[] #[.pointer (some ⟨X, 0, none⟩)])]) (fun s w' => Ki w base p h g v w' s.1 s.2 ∧ Wri n2 2 (t.1, t.2 || !decide (xs.length ≤ 256)) (xs.length : Int) s.2) ?_ ?_
  rotate_left
  · intro K hK
    refine Exists.intro (t.2 || !decide (xs.length ≤ 256)) (And.intro (cellB k1.wi.blk rfl) ?_)
    cases hbad : (t.2 || !decide (xs.length ≤ 256)) with
    | true =>
      rw [hbad] at k1 hK
      exact hK (v, (t.1, true)) _ _ ⟨rfl, rfl, rfl, trivial⟩ ⟨k1, Wri.bad rfl _ _⟩
    | false =>
      rw [hbad] at k1 hK
      refine call_ (two1_ok base p h g v (t.1, false) [(xs.length : Int)] 1 w1 k1.wi rfl (by simp; omega)) ?_
      rintro e w2 ⟨rfl, v2, k2⟩
      refine ⟨_, rfl, ?_⟩
      exact hK (v2, _) _ _ ⟨rfl, rfl, rfl, trivial⟩ ⟨k1.then k2, Wri.n2⟩
  rintro ⟨v2, t2⟩ w2 fr2 ⟨k2, wr2⟩
  dsimp only at k2 wr2
  refine seq_cut (σ := Unit) (fun _ => [(0, .pointer (some ⟨h, 0, none⟩)), (3, .func (.func 40) #[] #[.pointer (some ⟨X, 0, none⟩)]), (26, .slice Al xs.length cl), (27, zi (xs.length : Int)), (28, zi 0)]) (fun _ w' => w' = w2) ?_ ?_
  rotate_left
  · intro K hK
    exact hK () _ _ ⟨rfl, rfl, rfl, rfl, rfl, trivial⟩ rfl
  rintro _ wy fry hwy
  obtain rfl := hwy.symm
  refine den_loop (σ := Nat × Value × WT) (fun s => [(0, .pointer (some ⟨h, 0, none⟩)), (3, .func (.func 40) #[] #[.pointer (some ⟨X, 0, none⟩)]), (26, .slice Al xs.length cl), (27, zi (xs.length : Int)), (28, zi (s.1 : Int))])
    (fun m s wl => m + s.1 = xs.length ∧ Ki w base p h g v wl s.2.1 s.2.2 ∧ WLst (fldT p.l) 256 cFld t xs s.1 s.2.2) xs.length (0, v2, t2) ⟨rfl, rfl, rfl, rfl, rfl, trivial⟩ ⟨rfl, k2, WLst.start (by decide) wr2⟩ ?_
  rintro m ⟨i, v3, t3⟩ wl frl ⟨hfuel, kl, hw⟩
  dsimp only at hfuel kl hw
  refine if_p (fun hlt => ?_) (fun hge => ?_)
  · replace hlt : (i : Int) < (xs.length : Int) := hlt
    have hi : i < xs.length := by omega
    obtain ⟨m, rfl⟩ : ∃ m', m = m' + 1 := ⟨m - 1, by omega⟩
    have inc := incN hi h43
    obtain ⟨Al', cl', he, _, gx⟩ := (kl.lrep fldOk (by decide) hl).get fldOk (by decide)
    cases he
    obtain ⟨a, cs, ea, hx, hc⟩ := gx i hi
    have hcs : csum cFld (xs.take i) + cFld xs[i] ≤ csum cFld xs := by
      have h1 := csum_le cFld xs (i + 1)
      rw [List.take_succ_eq_append_getElem hi, csum_snoc] at h1
      exact h1
    have hw1 := hw.1
    have hmem : xs[i] ∈ xs := List.getElem_mem hi
    obtain ⟨y, hy⟩ : ∃ y, y = xs[i] := ⟨_, rfl⟩
    rw [← hy] at hx hcs hmem
    have hx0 := hx
    obtain rfl := hx
    refine And.intro (by omega) (And.intro hlt ?_)
    refine some_at ea ?_
    refine loadN_row (vs := [zi y.acc, strV y.name, strV y.typ]) (fun j u hu => by rw [Int.toNat_natCast]; exact hc j u hu) rfl ?_
    refine And.intro rfl ?_
    refine storeNew (vs := [zi y.acc, strV y.name, strV y.typ]) (arr := #[zi 0, .string ⟨#[]⟩, .string ⟨#[]⟩]) rfl (fldOk.one hx0) ?_
    intro w5 hb5 n5 s5
    have k5 := kl.new n5
    refine Exists.intro t3.2 (And.intro (cellB k5.wi.blk rfl) ?_)
    refine if_ (fun hbad => ?_) (fun hbad => ?_)
    · exact ⟨rfl, v3, t3, k5, hw.stop hbad⟩
    refine skip_ (thenF_ ?_)
    refine loadN_row (vs := [zi y.acc, strV y.name, strV y.typ]) (rowB hb5) rfl ?_
    refine call_ (fld1_ok p base h g v3 t3 _ y X w5 k5.wi (n5.blk (kl.blk hX hXn)) (kl.hid (Array.getElem?_eq_some_iff.1 hX).1 hXn) (fldOk.mod hx0 n5.mod) (hf y hmem) (by omega)) ?_
    rintro e w6 ⟨rfl, v6, t6, k6, wr6⟩
    refine ⟨_, rfl, ?_⟩
    exact ⟨m, (i + 1, v6, t6), by omega, ⟨rfl, rfl, rfl, rfl, inc, trivial⟩, by dsimp only; omega, k5.then k6, hw.step hi (by rw [← hy]; exact wr6)⟩
  · replace hge : ¬ (i : Int) < (xs.length : Int) := hge
    obtain rfl : i = xs.length := by omega
    exact ⟨rfl, v3, t3, kl, hw.done⟩

theorem mth1_ok (p : Po) (base : Nat) (h g : Nat) (v : Value) (t : WT) (cs : List Value) (x : Mth) (X : Nat) (w : World) (c : Wi w base p h g v t) (hO : OkPool p.l) (hX : w.heap[X]? = some (.cells #[.pointer (some ⟨h, 0, none⟩)] 78 (0, 0))) (hXn : ¬ WH h g v X) (hx : mthR w (WH h g v) cs x) (hf : i64 x.acc) (hm : t.1.length + cMth x ≤ 1000000000) :
    Calls Tryd.prog 44 #[.agg cs.toArray, .pointer (some ⟨X, 0, none⟩)] w fun e w' => e = .returned (.tuple #[]) ∧ ∃ v' t', Ki w base p h g v w' v' t' ∧ Wri (mthT p.l) (cMth x) t x t' := by
  have hcost : cMth x = 14 + cCod x.code := rfl
  obtain ⟨_, _, _, rfl, hb0, hh0, hm0⟩ := hx
  obtain ⟨Ab, cb, rfl, hnb, _⟩ := hb0.get u8Ok (by decide)
  obtain ⟨Ah, ch, rfl, hnh, _⟩ := hh0.get hndOk (by decide)
  obtain ⟨Am, cm, rfl, hnm, _⟩ := hm0.get mpOk (by decide)
  have hc0 : codR w (WH h g v) [zi x.code.stack, zi x.code.locals, .slice Ab x.code.bytes.length cb, .slice Ah x.code.hands.length ch, .slice Am x.code.maps.length cm] x.code := ⟨_, _, _, rfl, hb0, hh0, hm0⟩
  refine enter ok Tryd.func44 rfl rfl rfl ?_
  obtain ⟨M, hM⟩ : ∃ M, M = w.heap.size := ⟨_, rfl⟩
  refine seq_cut (σ := Unit) (fun _ => [(1, .pointer (some ⟨X, 0, none⟩)), (2, .pointer (some ⟨M, 0, none⟩))]) (fun _ w' => New w w' ∧ w'.heap[M]? = some (.cells #[zi x.acc, strV x.name, strV x.typ, zi x.code.stack, zi x.code.locals, .slice Ab x.code.bytes.length cb, .slice Ah x.code.hands.length ch, .slice Am x.code.maps.length cm] 36 (0, 0))) ?_ ?_
  rotate_left
  · intro K hK
    rw [hM] at hK
    exact hK () _ _ ⟨rfl, rfl, trivial⟩ ⟨New.alloc w _, heap_alloc_new w (.cells #[zi x.acc, strV x.name, strV x.typ, zi x.code.stack, zi x.code.locals, .slice Ab x.code.bytes.length cb, .slice Ah x.code.hands.length ch, .slice Am x.code.maps.length cm] 36)⟩
  rintro _ w0 fr0 ⟨n0, hM0⟩
  have c0 := c.new n0
  have hX0 := n0.blk hX
  have hMn : ¬ WH h g v M := c.hi (by omega)
  refine seq_cut (σ := Bool) (fun _ => [(1, .pointer (some ⟨X, 0, none⟩)), (2, .pointer (some ⟨M, 0, none⟩))]) (fun b w' => Ki w0 base p h g v w' v (t.1, t.2 || !b) ∧ (b = true ↔ x.acc = 0 ∨ x.acc = 8 ∨ x.acc = 32 ∨ x.acc = 40)) ?_ ?_
  rotate_left
  · intro K hK
    refine Exists.intro (some ⟨h, 0, none⟩) (And.intro (cell0 hX0) ?_)
    refine Exists.intro x.acc (And.intro (cellB hM0 rfl) ?_)
    refine call_ (must_ok base p h g v t (decide (bits .andNot .i64 x.acc 40 = 0)) w0 c0) ?_
    rintro e w1 ⟨rfl, k1⟩
    refine ⟨_, rfl, ?_⟩
    exact hK _ _ _ ⟨rfl, rfl, trivial⟩ ⟨k1, andNot40 hf⟩
  rintro b w1 fr1 ⟨k1, hb⟩
  have c1 := k1.wi
  have hX1 := k1.blk hX0 hXn
  have hM1 := k1.blk hM0 hMn
  have k01 := ((Ki.refl c).new n0).then k1
  have hc1 := k01.rep codOk hc0
  have rowM : ∀ {w' : World}, w'.heap[M]? = some (.cells #[zi x.acc, strV x.name, strV x.typ, zi x.code.stack, zi x.code.locals, .slice Ab x.code.bytes.length cb, .slice Ah x.code.hands.length ch, .slice Am x.code.maps.length cm] 36 (0, 0)) → ∀ (j : Nat) (u : Value), [zi x.code.stack, zi x.code.locals, .slice Ab x.code.bytes.length cb, .slice Ah x.code.hands.length ch, .slice Am x.code.maps.length cm][j]? = some u → w'.cell? (((⟨M, 0, none⟩ : Addr).add 3).add j) = some u := fun hM j u hu => by
    rw [add_add_]
    refine cellB hM ?_
    rw [← hu, ← Array.getElem?_toList]
    show ([zi x.acc, strV x.name, strV x.typ] ++ [zi x.code.stack, zi x.code.locals, .slice Ab x.code.bytes.length cb, .slice Ah x.code.hands.length ch, .slice Am x.code.maps.length cm])[3 + j]? = _
    rw [List.getElem?_append_right (show 3 ≤ 3 + j by omega)]
    show [zi x.code.stack, zi x.code.locals, .slice Ab x.code.bytes.length cb, .slice Ah x.code.hands.length ch, .slice Am x.code.maps.length cm][3 + j - 3]? = _
    rw [Nat.add_sub_cancel_left]
  have kk1 := Ki.refl c1
  refine seq_cut (σ := Value × WT) (fun _ => [(1, .pointer (some ⟨X, 0, none⟩)), (2, .pointer (some ⟨M, 0, none⟩))]) (fun s w' => Ki w1 base p h g v w' s.1 s.2 ∧ Wri (n2) (2) (t.1, t.2 || !b) x.acc s.2) ?_ ?_
  rotate_left
  · intro K hK
    have hX1 := kk1.blk hX1 hXn
    have hM1 := kk1.blk hM1 hMn
    refine Exists.intro (some ⟨h, 0, none⟩) (And.intro (cell0 hX1) ?_)
    refine Exists.intro x.acc (And.intro (cellB hM1 rfl) ?_)
    refine call_ (two1_ok base p h g v (t.1, t.2 || !b) [x.acc] 1 w1 kk1.wi rfl (by simp; omega)) ?_
    rintro e w2 ⟨rfl, v2, k2⟩
    refine ⟨_, rfl, ?_⟩
    exact hK (v2, _) _ _ ⟨rfl, rfl, trivial⟩ ⟨kk1.then k2, Wri.n2⟩
  rintro ⟨v2, t2⟩ w2 fr2 ⟨kk2, q2⟩
  dsimp only at kk2 q2
  have p2 := q2.1
  try dsimp only at p2
  refine seq_cut (σ := Value × WT) (fun _ => [(1, .pointer (some ⟨X, 0, none⟩)), (2, .pointer (some ⟨M, 0, none⟩))]) (fun s w' => Ki w1 base p h g v w' s.1 s.2 ∧ Wri (utfT p.l) (2) t2 x.name s.2) ?_ ?_
  rotate_left
  · intro K hK
    have hX2 := kk2.blk hX1 hXn
    have hM2 := kk2.blk hM1 hMn
    refine Exists.intro (some ⟨h, 0, none⟩) (And.intro (cell0 hX2) ?_)
    refine Exists.intro (⟨x.name.toArray⟩ : ByteArray) (And.intro (cellB hM2 rfl) ?_)
    refine call_ (wtext_ok p base h g v2 t2 x.name w2 kk2.wi (by omega)) ?_
    rintro e w3 ⟨rfl, v3, t3, k3, wr3⟩
    refine ⟨_, rfl, ?_⟩
    exact hK (v3, t3) _ _ ⟨rfl, rfl, trivial⟩ ⟨kk2.then k3, wr3⟩
  rintro ⟨v3, t3⟩ w3 fr3 ⟨kk3, q3⟩
  dsimp only at kk3 q3
  have p3 := q3.1
  try dsimp only at p3
  refine seq_cut (σ := Value × WT) (fun _ => [(1, .pointer (some ⟨X, 0, none⟩)), (2, .pointer (some ⟨M, 0, none⟩))]) (fun s w' => Ki w1 base p h g v w' s.1 s.2 ∧ Wri (utfT p.l) (2) t3 x.typ s.2) ?_ ?_
  rotate_left
  · intro K hK
    have hX3 := kk3.blk hX1 hXn
    have hM3 := kk3.blk hM1 hMn
    refine Exists.intro (some ⟨h, 0, none⟩) (And.intro (cell0 hX3) ?_)
    refine Exists.intro (⟨x.typ.toArray⟩ : ByteArray) (And.intro (cellB hM3 rfl) ?_)
    refine call_ (wtext_ok p base h g v3 t3 x.typ w3 kk3.wi (by omega)) ?_
    rintro e w4 ⟨rfl, v4, t4, k4, wr4⟩
    refine ⟨_, rfl, ?_⟩
    exact hK (v4, t4) _ _ ⟨rfl, rfl, trivial⟩ ⟨kk3.then k4, wr4⟩
  rintro ⟨v4, t4⟩ w4 fr4 ⟨kk4, q4⟩
  dsimp only at kk4 q4
  have p4 := q4.1
  try dsimp only at p4
  refine seq_cut (σ := Value × WT) (fun _ => [(1, .pointer (some ⟨X, 0, none⟩)), (2, .pointer (some ⟨M, 0, none⟩))]) (fun s w' => Ki w1 base p h g v w' s.1 s.2 ∧ Wri (n2) (2) t4 1 s.2) ?_ ?_
  rotate_left
  · intro K hK
    have hX4 := kk4.blk hX1 hXn
    have hM4 := kk4.blk hM1 hMn
    refine Exists.intro (some ⟨h, 0, none⟩) (And.intro (cell0 hX4) ?_)
    refine call_ (two1_ok base p h g v4 t4 [1] 1 w4 kk4.wi rfl (by simp; omega)) ?_
    rintro e w5 ⟨rfl, v5, k5⟩
    refine ⟨_, rfl, ?_⟩
    exact hK (v5, _) _ _ ⟨rfl, rfl, trivial⟩ ⟨kk4.then k5, Wri.n2⟩
  rintro ⟨v5, t5⟩ w5 fr5 ⟨kk5, q5⟩
  dsimp only at kk5 q5
  have p5 := q5.1
  try dsimp only at p5
  refine seq_cut (σ := Value × WT) (fun _ => [(1, .pointer (some ⟨X, 0, none⟩)), (2, .pointer (some ⟨M, 0, none⟩))]) (fun s w' => Ki w1 base p h g v w' s.1 s.2 ∧ Wri (utfT p.l) (2) t5 codeS s.2) ?_ ?_
  rotate_left
  · intro K hK
    have hX5 := kk5.blk hX1 hXn
    have hM5 := kk5.blk hM1 hMn
    refine Exists.intro (some ⟨h, 0, none⟩) (And.intro (cell0 hX5) ?_)
    refine call_ (wtext_ok p base h g v5 t5 codeS w5 kk5.wi (by omega)) ?_
    rintro e w6 ⟨rfl, v6, t6, k6, wr6⟩
    refine ⟨_, rfl, ?_⟩
    exact hK (v6, t6) _ _ ⟨rfl, rfl, trivial⟩ ⟨kk5.then k6, wr6⟩
  rintro ⟨v6, t6⟩ w6 fr6 ⟨kk6, q6⟩
  dsimp only at kk6 q6
  have p6 := q6.1
  try dsimp only at p6
  have hX6 := kk6.blk hX1 hXn
  have hM6 := kk6.blk hM1 hMn
  refine seq_cut (σ := Nat × Nat) (fun s => [(1, .pointer (some ⟨X, 0, none⟩)), (2, .pointer (some ⟨M, 0, none⟩)), (3, .pointer (some ⟨s.1, 0, none⟩))]) (fun s w' => New w6 w' ∧ Wi w' base p s.1 s.2 (.slice none 0 0) ([], false) ∧ w6.heap.size ≤ s.1 ∧ w6.heap.size ≤ s.2) ?_ ?_
  rotate_left
  · intro K hK
    refine Exists.intro (some ⟨h, 0, none⟩) (And.intro (cell0 hX6) ?_)
    refine call_ (part_ok base p h g v6 t6 w6 kk6.wi) ?_
    rintro e wp ⟨h', hne', rfl, cp, hle, np⟩
    refine ⟨_, rfl, ?_⟩
    exact hK (h', w6.heap.size) _ _ ⟨rfl, rfl, rfl, trivial⟩ ⟨np, cp, hle, Nat.le_refl _⟩
  rintro ⟨h', g'⟩ wp frp ⟨np, cp, hh', hg'⟩
  dsimp only at cp hh' hg'
  have kp := kk6.new np
  have hXp := np.blk hX6
  have hMp := np.blk hM6
  have own' : ∀ b, WH h' g' (.slice none 0 0) b → w6.heap.size ≤ b := fun b e => by
    rcases e with (e | e) | e
    · omega
    · cases e
    · omega
  refine seq_cut (σ := Value × WT) (fun s => [(1, .pointer (some ⟨X, 0, none⟩)), (2, .pointer (some ⟨M, 0, none⟩)), (3, .pointer (some ⟨h', 0, none⟩))]) (fun s w' => Ki wp base p h' g' (.slice none 0 0) w' s.1 s.2 ∧ Wri (codT p.l) (cCod x.code) ([], false) x.code s.2) ?_ ?_
  rotate_left
  · intro K hK
    refine loadN_row (vs := [zi x.code.stack, zi x.code.locals, .slice Ab x.code.bytes.length cb, .slice Ah x.code.hands.length ch, .slice Am x.code.maps.length cm]) (fun j u hu => rowM hMp j u hu) rfl ?_
    refine call_ (code_ok p base h' g' (.slice none 0 0) ([], false) _ x.code wp cp hO (rep_up codOk (kk6.rep codOk hc1) np own') (by simp; omega)) ?_
    rintro e wq ⟨rfl, vq, tq, kq, wrq⟩
    refine ⟨_, rfl, ?_⟩
    exact hK (vq, tq) _ _ ⟨rfl, rfl, rfl, trivial⟩ ⟨kq, wrq⟩
  rintro ⟨vq, tq⟩ wq frq ⟨kq, wrq⟩
  dsimp only at kq wrq
  have hlq := wrq.1
  simp only [List.length_nil] at hlq
  have ownq : ∀ b, WH h' g' vq b → w6.heap.size ≤ b := fun b e => by
    rcases e with (e | e) | e
    · omega
    · rcases kq.st b e.symm with e1 | e1
      · cases e1
      · exact Nat.le_trans np.size e1
    · omega
  have hbw6 := kk6.wi.bw
  have cw : Wi wq base p h g v6 t6 := kp.wi.other kq.mod fun b _ e => ⟨Nat.le_trans hbw6 (own' b e), kk6.wi.hi (own' b e)⟩
  have hXq := kq.blk hXp fun e => by
    have h1 := own' X e
    have h2 := (Array.getElem?_eq_some_iff.1 hX6).1
    omega
  refine Exists.intro (some ⟨h, 0, none⟩) (And.intro (cell0 hXq) ?_)
  refine call_ (add_ok p base h g v6 t6 h' g' vq tq wq cw kq.wi (fun b e => kk6.wi.hi (ownq b e)) (by omega)) ?_
  rintro e wr ⟨rfl, vr, kr⟩
  refine ⟨_, rfl, ?_⟩
  have hsz6 := kk6.mod.size
  have kall := kp.also kq.mod (fun b e => Nat.le_trans hsz6 (own' b e)) kr
  have qr := Wri.part (t := t6) wrq
  exact ⟨rfl, vr, _, k01.then kall, Wri.le (Wri.by (q2.seq (q3.seq (q4.seq (q5.seq (q6.seq qr))))) rfl hb) (by rw [hcost]; omega)⟩
theorem list_mth (p : Po) (base : Nat) (h g : Nat) (v : Value) (t : WT) (vl : Value) (xs : List Mth) (X : Nat)  (w : World) (c : Wi w base p h g v t) (hO : OkPool p.l) (hl : LRep mthR w (WH h g v) vl xs) (hX : w.heap[X]? = some (.cells #[.pointer (some ⟨h, 0, none⟩)] 78 (0, 0))) (hXn : ¬ WH h g v X) (hf : ∀ x ∈ xs, i64 x.acc)  (hm : t.1.length + (2 + csum cMth xs) ≤ 1000000000) :
    Calls Tryd.prog 43 #[.pointer (some ⟨h, 0, none⟩), vl, zi 256, .func (.func 44) #[] #[.pointer (some ⟨X, 0, none⟩)]] w fun e w' => e = .returned (.tuple #[]) ∧ ∃ v' t', Ki w base p h g v w' v' t' ∧ Wri (mthsT p.l) (2 + csum cMth xs) t xs t' := by
  obtain ⟨Al, cl, rfl, h43, _⟩ := hl.get mthOk (by decide)
  refine enter ok Tryd.func43 rfl rfl rfl ?_
  refine seq_cut (σ := Unit) (fun _ => [(0, .pointer (some ⟨h, 0, none⟩)), (1, .slice Al xs.length cl), (3, .func (.func 44) #[] #[.pointer (some ⟨X, 0, none⟩)])]) (fun _ w' => Ki w base p h g v w' v (t.1, t.2 || !decide (xs.length ≤ 256))) ?_ ?_
  rotate_left
  · intro K hK
    refine call_ (must_ok base p h g v t (decide ((xs.length : Int) ≤ 256)) w c) ?_
    rintro e w1 ⟨rfl, k1⟩
    refine ⟨_, rfl, ?_⟩
    have e1 : decide ((xs.length : Int) ≤ 256) = decide (xs.length ≤ 256) := decide_eq_decide.2 (by omega)
    rw [e1] at k1
    exact hK () _ _ ⟨rfl, rfl, rfl, trivial⟩ k1
  rintro _ w1 fr1 k1
  refine seq_cut (σ := Value × WT) (fun _ => [(0, .pointer (some ⟨h, 0, none⟩)), (1, .slice Al xs.length cl), (3, .func (.func 44) #[] #[.pointer (some ⟨X, 0, none⟩)])]) (fun s w' => Ki w base p h g v w' s.1 s.2 ∧ Wri n2 2 (t.1, t.2 || !decide (xs.length ≤ 256)) (xs.length : Int) s.2) ?_ ?_
  rotate_left
  · intro K hK
    refine Exists.intro (t.2 || !decide (xs.length ≤ 256)) (And.intro (cellB k1.wi.blk rfl) ?_)
    cases hbad : (t.2 || !decide (xs.length ≤ 256)) with
    | true =>
      rw [hbad] at k1 hK
      exact hK (v, (t.1, true)) _ _ ⟨rfl, rfl, rfl, trivial⟩ ⟨k1, Wri.bad rfl _ _⟩
    | false =>
      rw [hbad] at k1 hK
      refine call_ (two1_ok base p h g v (t.1, false) [(xs.length : Int)] 1 w1 k1.wi rfl (by simp; omega)) ?_
      rintro e w2 ⟨rfl, v2, k2⟩
      refine ⟨_, rfl, ?_⟩
      exact hK (v2, _) _ _ ⟨rfl, rfl, rfl, trivial⟩ ⟨k1.then k2, Wri.n2⟩
  rintro ⟨v2, t2⟩ w2 fr2 ⟨k2, wr2⟩
  dsimp only at k2 wr2
  refine seq_cut (σ := Unit) (fun _ => [(0, .pointer (some ⟨h, 0, none⟩)), (3, .func (.func 44) #[] #[.pointer (some ⟨X, 0, none⟩)]), (26, .slice Al xs.length cl), (27, zi (xs.length : Int)), (28, zi 0)]) (fun _ w' => w' = w2) ?_ ?_
  rotate_left
  · intro K hK
    exact hK () _ _ ⟨rfl, rfl, rfl, rfl, rfl, trivial⟩ rfl
  rintro _ wy fry hwy
  obtain rfl := hwy.symm
  refine den_loop (σ := Nat × Value × WT) (fun s => [(0, .pointer (some ⟨h, 0, none⟩)), (3, .func (.func 44) #[] #[.pointer (some ⟨X, 0, none⟩)]), (26, .slice Al xs.length cl), (27, zi (xs.length : Int)), (28, zi (s.1 : Int))])
    (fun m s wl => m + s.1 = xs.length ∧ Ki w base p h g v wl s.2.1 s.2.2 ∧ WLst (mthT p.l) 256 cMth t xs s.1 s.2.2) xs.length (0, v2, t2) ⟨rfl, rfl, rfl, rfl, rfl, trivial⟩ ⟨rfl, k2, WLst.start (by decide) wr2⟩ ?_
  rintro m ⟨i, v3, t3⟩ wl frl ⟨hfuel, kl, hw⟩
  dsimp only at hfuel kl hw
  refine if_p (fun hlt => ?_) (fun hge => ?_)
  · replace hlt : (i : Int) < (xs.length : Int) := hlt
    have hi : i < xs.length := by omega
    obtain ⟨m, rfl⟩ : ∃ m', m = m' + 1 := ⟨m - 1, by omega⟩
    have inc := incN hi h43
    obtain ⟨Al', cl', he, _, gx⟩ := (kl.lrep mthOk (by decide) hl).get mthOk (by decide)
    cases he
    obtain ⟨a, cs, ea, hx, hc⟩ := gx i hi
    have hcs : csum cMth (xs.take i) + cMth xs[i] ≤ csum cMth xs := by
      have h1 := csum_le cMth xs (i + 1)
      rw [List.take_succ_eq_append_getElem hi, csum_snoc] at h1
      exact h1
    have hw1 := hw.1
    have hmem : xs[i] ∈ xs := List.getElem_mem hi
    obtain ⟨y, hy⟩ : ∃ y, y = xs[i] := ⟨_, rfl⟩
    rw [← hy] at hx hcs hmem
    have hx0 := hx
    obtain ⟨_, _, _, rfl, hy1, hy2, hy3⟩ := hx
    obtain ⟨Ab, cb, rfl, _⟩ := hy1.get u8Ok (by decide)
    obtain ⟨Ah, ch, rfl, _⟩ := hy2.get hndOk (by decide)
    obtain ⟨Am, cm, rfl, _⟩ := hy3.get mpOk (by decide)
    refine And.intro (by omega) (And.intro hlt ?_)
    refine some_at ea ?_
    refine loadN_row (vs := [zi y.acc, strV y.name, strV y.typ, zi y.code.stack, zi y.code.locals, .slice Ab y.code.bytes.length cb, .slice Ah y.code.hands.length ch, .slice Am y.code.maps.length cm]) (fun j u hu => by rw [Int.toNat_natCast]; exact hc j u hu) rfl ?_
    refine And.intro rfl ?_
    refine storeNew (vs := [zi y.acc, strV y.name, strV y.typ, zi y.code.stack, zi y.code.locals, .slice Ab y.code.bytes.length cb, .slice Ah y.code.hands.length ch, .slice Am y.code.maps.length cm]) (arr := #[zi 0, .string ⟨#[]⟩, .string ⟨#[]⟩, zi 0, zi 0, .slice none 0 0, .slice none 0 0, .slice none 0 0]) rfl (mthOk.one hx0) ?_
    intro w5 hb5 n5 s5
    have k5 := kl.new n5
    refine Exists.intro t3.2 (And.intro (cellB k5.wi.blk rfl) ?_)
    refine if_ (fun hbad => ?_) (fun hbad => ?_)
    · exact ⟨rfl, v3, t3, k5, hw.stop hbad⟩
    refine skip_ (thenF_ ?_)
    refine loadN_row (vs := [zi y.acc, strV y.name, strV y.typ, zi y.code.stack, zi y.code.locals, .slice Ab y.code.bytes.length cb, .slice Ah y.code.hands.length ch, .slice Am y.code.maps.length cm]) (rowB hb5) rfl ?_
    refine call_ (mth1_ok p base h g v3 t3 _ y X w5 k5.wi hO (n5.blk (kl.blk hX hXn)) (kl.hid (Array.getElem?_eq_some_iff.1 hX).1 hXn) (mthOk.mod hx0 n5.mod) (hf y hmem) (by omega)) ?_
    rintro e w6 ⟨rfl, v6, t6, k6, wr6⟩
    refine ⟨_, rfl, ?_⟩
    exact ⟨m, (i + 1, v6, t6), by omega, ⟨rfl, rfl, rfl, rfl, inc, trivial⟩, by dsimp only; omega, k5.then k6, hw.step hi (by rw [← hy]; exact wr6)⟩
  · replace hge : ¬ (i : Int) < (xs.length : Int) := hge
    obtain rfl : i = xs.length := by omega
    exact ⟨rfl, v3, t3, kl, hw.done⟩


end Go.Proofs.YtdcaafldnbcdkaaDoor.Class

/-! ### KPrint -/
namespace Go.Proofs.YtdcaafldnbcdkaaDoor.Class
open Go Go.Proofs.YtdcaafldnbcdkaaDoor Go.Proofs.YtdcaafldnbcdkaaDoor.Eng Go.Proofs Go.Proofs.YtdcaafldnbcdkaaDoor.Word Go.Proofs.YtdcaafldnbcdkaaDoor.Fmt
open Go.Proofs.YtdcaafldnbcdkaaDoor.Pool (Ent at_ poolF strV entC entV EntOk Pl OkPool both own_low tagAt)
set_option maxRecDepth 10000

theorem enc_len {l : List Ent} (ho : Pool.okB l = true) (hn : ∀ x ∈ l, EntOk x) : (poolF.enc l).length ≤ 100000000 := by
  have hO := (Pool.okB_iff l).1 ho
  have h1 := Pool.ents_take_len hO hn l.length (Nat.le_refl _)
  rw [List.take_length] at h1
  have h2 := hO.2
  show (enc 2 (l.length : Int) ++ Pool.ents (l.drop 1)).length ≤ _
  rw [Pool.ents_all hO.1, List.length_append, enc_length]
  omega
def fCls (c : Cls) : Prop := (∀ x ∈ c.pool, EntOk x) ∧ (∀ f ∈ c.fields, i64 f.acc) ∧ ∀ m ∈ c.methods, i64 m.acc
def cCls (c : Cls) : Nat := csum cFld c.fields + csum cMth c.methods
def PrRes (w : World) (c : Cls) (e : Ending) (w' : World) : Prop := ∃ A q, e = .returned (.tuple #[.slice A (bytesOf c).length q, zi (errOf c)]) ∧ Row w' A (bvs (bytesOf c)) ∧ (bytesOf c).length ≤ q ∧ q ≤ 9223372036854775807 ∧ New w w'
theorem pr_bad {w w' : World} {c : Cls} {er : Int} (h : errOf c = er ∧ bytesOf c = []) (n : New w w') : PrRes w c (.returned (.tuple #[.slice none 0 0, .int .i64 er])) w' :=
  ⟨none, 0, by rw [h.1, h.2]; rfl, by rw [h.2]; exact Row.nil _ _, by rw [h.2]; exact Nat.le_refl _, by omega, n⟩
theorem wri_file {d : Nat} {c : Cls} {t : WT} (h : Wri fileT d ([], false) c t) : (t.2 = true → errOf c = 80 ∧ bytesOf c = []) ∧ (t.2 = false → 32768 < t.1.length → errOf c = 3 ∧ bytesOf c = []) ∧ (t.2 = false → t.1.length ≤ 32768 → errOf c = 0 ∧ bytesOf c = t.1) := by
  obtain ⟨_, h⟩ := h
  unfold errOf bytesOf
  rcases h with ⟨a, b⟩ | ⟨a, _, o, e⟩
  · have hb : ¬ fileT.ok c := by
      rcases b with b | b
      · cases b
      · exact b
    refine ⟨fun _ => ⟨if_neg hb, if_neg fun h => hb h.1⟩, fun h => ?_, fun h => ?_⟩
    · rw [h] at a; cases a
    · rw [h] at a; cases a
  · rw [List.nil_append] at e
    rw [← e, if_pos o]
    refine ⟨fun h => ?_, fun _ h => ⟨if_neg (by omega), if_neg (by omega)⟩, fun _ h => ⟨if_pos h, if_pos ⟨o, h⟩⟩⟩
    rw [h] at a; cases a
theorem not_pool {c : Cls} (h : Pool.okB c.pool = false) : errOf c = 80 ∧ bytesOf c = [] := by
  have hn : ¬ fileT.ok c := fun o => by
    have h1 : Pool.okB c.pool = true := o.2.2.2.2.1.1
    rw [h] at h1
    cases h1
  unfold errOf bytesOf
  exact ⟨if_neg hn, if_neg fun h => hn h.1⟩
theorem Wri.pool {t : WT} {l : List Ent} (h : poolF.ok l) : Wri (tF poolF) (poolF.enc l).length t l (t.1 ++ poolF.enc l, t.2) := by
  refine ⟨by simp, ?_⟩
  cases ht : t.2 with
  | true => exact .inl ⟨rfl, .inl rfl⟩
  | false => exact .inr ⟨rfl, rfl, h, rfl⟩
theorem Wri.sup0 {l : List Ent} {t t1 : WT} {s : List UInt8} (h : Wri Class.n2 2 t 0 t1) (hs : s = []) : Wri (supT l) 2 t s t1 := by
  refine ⟨h.1, ?_⟩
  rcases h.2 with ⟨a, b⟩ | ⟨a, b, o, e⟩
  · exact .inl ⟨a, b.imp id fun b _ => b (n2_ok (by decide) (by decide))⟩
  · refine .inr ⟨a, b, .inl hs, ?_⟩
    rw [e]
    show _ = t.1 ++ (if s = [] then enc 2 0 else _)
    rw [if_pos hs]
    rfl
theorem Wri.sup1 {l : List Ent} {t t1 : WT} {s : List UInt8} (h : Wri (clsT l) 2 t s t1) (hs : s ≠ []) : Wri (supT l) 2 t s t1 := by
  refine ⟨h.1, ?_⟩
  rcases h.2 with ⟨a, b⟩ | ⟨a, b, o, e⟩
  · exact .inl ⟨a, b.imp id fun b o => b (o.resolve_left hs)⟩
  · refine .inr ⟨a, b, .inr o, ?_⟩
    rw [e]
    show _ = t.1 ++ (if s = [] then enc 2 0 else _)
    rw [if_neg hs]
theorem goodMagic : good ((4 : Nat) : Int) false [3405691582] = true := by decide
theorem start {w1 w4 w5 : World} {p : Po} {h g X : Nat} (cx : Cx w1 w1.heap.size p) (hg : w1.heap.size ≤ g) (hh : w1.heap.size ≤ h) (hx : w1.heap.size ≤ X) (ne : h ≠ g) (nh : X ≠ h) (ng : X ≠ g) (n : New w1 w4)
    (hb : w4.heap[g]? = some (.cells #[.slice none 0 0, .int .i64 0, .bool true] 125 (0, 0))) (hh4 : w4.heap[h]? = some (.cells #[.pointer (some ⟨g, 0, none⟩), p.v, .bool false] 82 (0, 0))) (m5 : Mod (fun b => b = X) w4 w5) : Wi w5 w1.heap.size p h g (.slice none 0 0) ([], false) ∧ New w1 w5 := by
  have n5 : New w1 w5 := n.st m5 hx
  exact ⟨⟨m5.blk hh4 (fun e => nh e.symm), ⟨m5.blk hb (fun e => ng e.symm), ⟨rfl, .inl ⟨rfl, rfl⟩⟩, (fun e => (by cases e))⟩, ne, (fun e => (by cases e)), hh, hg, cx.new n5⟩, n5⟩
theorem Print_ok (cs0 : List Value) (c : Cls) (S : Nat → Prop) (w : World) (hx : clsR w S cs0 c) (hf : fCls c) (hk : Kt w) (hG : 0 < w.heap.size) (hm : cCls c ≤ 500000000) :
    Calls Tryd.prog 13 #[.agg cs0.toArray] w (PrRes w c) := by
  replace hx := clsOk.weak (S' := fun b => w.heap.size + 1 ≤ b) hx fun b hb e => by omega
  obtain ⟨_, _, _, rfl, lp, lf, lm⟩ := hx
  obtain ⟨hfp, hff, hfm⟩ := hf
  have hcost : cCls c = csum cFld c.fields + csum cMth c.methods := rfl
  obtain ⟨A, q, rfl, pl, hq1, hq2, plow⟩ := pool_row lp hfp
  obtain ⟨_, _, _, hpn, _⟩ := lp.get entOk (by decide)
  have lf0 := lf
  obtain ⟨Af, cf, rfl, hnf, _⟩ := lf.get fldOk (by decide)
  have lm0 := lm
  obtain ⟨Am, cm, rfl, hnm, _⟩ := lm.get mthOk (by decide)
  refine enter ok Tryd.func13 rfl rfl rfl ?_
  obtain ⟨M, hMe⟩ : ∃ M, M = w.heap.size := ⟨_, rfl⟩
  refine seq_cut (σ := Unit) (fun _ => [(1, .pointer (some ⟨M, 0, none⟩))]) (fun _ w' => New w w' ∧ w'.heap.size = w.heap.size + 1 ∧ w'.heap[M]? = some (.cells #[.slice A c.pool.length q, strV c.name, strV c.super, .slice Af c.fields.length cf, .slice Am c.methods.length cm] 26 (0, 0))) ?_ ?_
  rotate_left
  · intro K hK
    rw [hMe] at hK
    exact hK () _ _ ⟨rfl, trivial⟩ ⟨New.alloc w _, by simp, heap_alloc_new w (.cells #[.slice A c.pool.length q, strV c.name, strV c.super, .slice Af c.fields.length cf, .slice Am c.methods.length cm] 26)⟩
  rintro _ wa fra ⟨na, sa, hMa⟩
  obtain ⟨base, hbase⟩ : ∃ base, base = wa.heap.size := ⟨_, rfl⟩
  obtain ⟨p, hp⟩ : ∃ p : Po, p = ⟨A, q, c.pool⟩ := ⟨_, rfl⟩
  have cx : Cx wa wa.heap.size p := by
    subst hp
    exact ⟨pl.new na, fun a ha hn => by have := (plow a ha hn).1; omega, fun k h0 h5 => na.cell (hk k h0 h5), by omega, Nat.le_refl _, hpn⟩
  refine seq_cut (σ := Nat × Nat × Nat) (fun s => [(1, .pointer (some ⟨M, 0, none⟩)), (4, .pointer (some ⟨s.2.2, 0, none⟩))]) (fun s w' => Wi w' wa.heap.size p s.1 s.2.1 (.slice none 0 0) ([], false) ∧ New wa w' ∧ w'.heap[s.2.2]? = some (.cells #[.pointer (some ⟨s.1, 0, none⟩)] 78 (0, 0)) ∧ s.2.2 ≠ s.1 ∧ s.2.2 ≠ s.2.1 ∧ wa.heap.size ≤ s.2.2) ?_ ?_
  rotate_left
  · intro K hK
    have nd := New.drew wa
    subst hp
    have zd : wa.drew.heap.size = wa.heap.size := rfl
    refine draw_ (w := wa) ok (.q 1 (.q 2 (.br (.e 0 (.q 3 (.br (.e 4 (.e 5 (.e 6 .done))) (.e 5 (.e 4 (.e 6 .done)))))) (.e 5 (.e 0 (.q 3 (.e 4 (.e 6 .done)))))))) [6] (New wa) (by kernel_rfl) (by kernel_rfl) (by kernel_rfl) (by kernel_rfl) (by kernel_rfl) nd ?_
    refine Exists.intro A (Exists.intro c.pool.length (Exists.intro q (And.intro (fun w'' hw => cellB (hw.blk hMa) rfl) ?_)))
    refine And.intro ?_ ?_
    · refine call_ (Make_ok wa.drew) ?_
      rintro e w2 ⟨rfl, wr2, n2, s2⟩
      refine ⟨_, rfl, ?_⟩
      refine Exists.intro (New wa) (And.intro (fun _ h => h) (And.intro (nd.trans n2) ?_))
      refine And.intro ?_ ?_
      · have n3 := New.alloc w2 (.cells #[.pointer (some ⟨wa.heap.size, 0, none⟩), .slice A c.pool.length q, .bool false] 82)
        have hb3 := heap_alloc_new w2 (.cells #[.pointer (some ⟨wa.heap.size, 0, none⟩), .slice A c.pool.length q, .bool false] 82)
        have s3 : (w2.alloc (.cells #[.pointer (some ⟨wa.heap.size, 0, none⟩), .slice A c.pool.length q, .bool false] 82)).heap.size = wa.heap.size + 2 := by simp; omega
        refine Exists.intro (New wa) (And.intro (fun _ h => h) (And.intro ((nd.trans n2).trans n3) ?_))
        have n4 := New.alloc (w2.alloc (.cells #[.pointer (some ⟨wa.heap.size, 0, none⟩), .slice A c.pool.length q, .bool false] 82)) (.cells #[.pointer none] 78)
        have hb4 := heap_alloc_new (w2.alloc (.cells #[.pointer (some ⟨wa.heap.size, 0, none⟩), .slice A c.pool.length q, .bool false] 82)) (.cells #[.pointer none] 78)
        refine Exists.intro (New wa) (And.intro (fun _ h => h) (And.intro (((nd.trans n2).trans n3).trans n4) ?_))
        refine And.intro ⟨_, cell0 hb4⟩ (And.intro (fz0 hb4) (force_ ?_))
        refine st0 hb4 (show (0 : Nat) < 1 by decide) ?_
        intro w5 hX5 m5 s5
        have sst := start (h := w2.heap.size) (g := wa.heap.size) (X := (w2.alloc (.cells #[.pointer (some ⟨wa.heap.size, 0, none⟩), .slice A c.pool.length q, .bool false] 82)).heap.size) cx (by omega) (by omega) (by omega) (by omega) (by omega) (by omega) (((nd.trans n2).trans n3).trans n4) (n4.blk (n3.blk wr2.blk)) (n4.blk hb3) m5
        exact hK (w2.heap.size, wa.heap.size, (w2.alloc (.cells #[.pointer (some ⟨wa.heap.size, 0, none⟩), .slice A c.pool.length q, .bool false] 82)).heap.size) _ _ ⟨rfl, rfl, trivial⟩ ⟨sst.1, sst.2, hX5, by dsimp only; omega, by dsimp only; omega, by dsimp only; omega⟩
      · have n3 := New.alloc w2 (.cells #[.pointer none] 78)
        have hb3 := heap_alloc_new w2 (.cells #[.pointer none] 78)
        have s3 : (w2.alloc (.cells #[.pointer none] 78)).heap.size = wa.heap.size + 2 := by simp; omega
        refine Exists.intro (New wa) (And.intro (fun _ h => h) (And.intro ((nd.trans n2).trans n3) ?_))
        have n4 := New.alloc (w2.alloc (.cells #[.pointer none] 78)) (.cells #[.pointer (some ⟨wa.heap.size, 0, none⟩), .slice A c.pool.length q, .bool false] 82)
        have hb4 := heap_alloc_new (w2.alloc (.cells #[.pointer none] 78)) (.cells #[.pointer (some ⟨wa.heap.size, 0, none⟩), .slice A c.pool.length q, .bool false] 82)
        refine Exists.intro (New wa) (And.intro (fun _ h => h) (And.intro (((nd.trans n2).trans n3).trans n4) ?_))
        refine And.intro ⟨_, cell0 (n4.blk hb3)⟩ (And.intro (fz0 (n4.blk hb3)) (force_ ?_))
        refine st0 (n4.blk hb3) (show (0 : Nat) < 1 by decide) ?_
        intro w5 hX5 m5 s5
        have sst := start (h := (w2.alloc (.cells #[.pointer none] 78)).heap.size) (g := wa.heap.size) (X := w2.heap.size) cx (by omega) (by omega) (by omega) (by omega) (by omega) (by omega) (((nd.trans n2).trans n3).trans n4) (n4.blk (n3.blk wr2.blk)) hb4 m5
        exact hK ((w2.alloc (.cells #[.pointer none] 78)).heap.size, wa.heap.size, w2.heap.size) _ _ ⟨rfl, rfl, trivial⟩ ⟨sst.1, sst.2, hX5, by dsimp only; omega, by dsimp only; omega, by dsimp only; omega⟩
    · have n1 := New.alloc wa.drew (.cells #[.pointer none] 78)
      have hb1 := heap_alloc_new wa.drew (.cells #[.pointer none] 78)
      have s1 : (wa.drew.alloc (.cells #[.pointer none] 78)).heap.size = wa.heap.size + 1 := by simp
      refine Exists.intro (New wa) (And.intro (fun _ h => h) (And.intro (nd.trans n1) ?_))
      refine call_ (Make_ok (wa.drew.alloc (.cells #[.pointer none] 78))) ?_
      rintro e w2 ⟨rfl, wr2, n2, s2⟩
      refine ⟨_, rfl, ?_⟩
      refine Exists.intro (New wa) (And.intro (fun _ h => h) (And.intro ((nd.trans n1).trans n2) ?_))
      have n4 := New.alloc w2 (.cells #[.pointer (some ⟨(wa.drew.alloc (.cells #[.pointer none] 78)).heap.size, 0, none⟩), .slice A c.pool.length q, .bool false] 82)
      have hb4 := heap_alloc_new w2 (.cells #[.pointer (some ⟨(wa.drew.alloc (.cells #[.pointer none] 78)).heap.size, 0, none⟩), .slice A c.pool.length q, .bool false] 82)
      refine Exists.intro (New wa) (And.intro (fun _ h => h) (And.intro (((nd.trans n1).trans n2).trans n4) ?_))
      refine And.intro ⟨_, cell0 (n4.blk (n2.blk hb1))⟩ (And.intro (fz0 (n4.blk (n2.blk hb1))) (force_ ?_))
      refine st0 (n4.blk (n2.blk hb1)) (show (0 : Nat) < 1 by decide) ?_
      intro w5 hX5 m5 s5
      have hz : wa.drew.heap.size = wa.heap.size := rfl
      have sst := start (h := w2.heap.size) (g := (wa.drew.alloc (.cells #[.pointer none] 78)).heap.size) (X := wa.drew.heap.size) cx (by omega) (by omega) (by omega) (by omega) (by omega) (by omega) (((nd.trans n1).trans n2).trans n4) (n4.blk wr2.blk) hb4 m5
      exact hK (w2.heap.size, (wa.drew.alloc (.cells #[.pointer none] 78)).heap.size, wa.drew.heap.size) _ _ ⟨rfl, rfl, trivial⟩ ⟨sst.1, sst.2, hX5, by dsimp only; omega, by dsimp only; omega, by dsimp only; omega⟩
  rintro ⟨h, g, X⟩ w1 fr1 ⟨c1, n1, hX1, hXh, hXg, hXb⟩
  dsimp only at c1 hX1 hXh hXg hXb
  rw [← hbase] at c1 hXb
  have hM1 := n1.blk hMa
  have hMn : ¬ WH h g (.slice none 0 0) M := fun e => by
    have := c1.at_ e
    omega
  have hXn : ¬ WH h g (.slice none 0 0) X := by
    rintro ((e | e) | e)
    · exact hXg e
    · cases e
    · exact hXh e
  have hXl : X < w1.heap.size := (Array.getElem?_eq_some_iff.1 hX1).1
  have n01 := na.trans n1
  have hbl : base = w.heap.size + 1 := by omega
  have hf1 : LRep fldR w1 (WH h g (.slice none 0 0)) (.slice Af c.fields.length cf) c.fields := LRep.weak fldOk (LRep.mod fldOk (by decide) lf0 (n01.mod.mono fun _ _ e => False.elim e)) fun b _ e => by have := c1.at_ e; omega
  have hm1 : LRep mthR w1 (WH h g (.slice none 0 0)) (.slice Am c.methods.length cm) c.methods := LRep.weak mthOk (LRep.mod mthOk (by decide) lm0 (n01.mod.mono fun _ _ e => False.elim e)) fun b _ e => by have := c1.at_ e; omega
  have fresh : ∀ {w' : World} {v' : Value} {t' : WT}, Ki w1 base p h g (.slice none 0 0) w' v' t' → New w w' := fun k => Mod.trans n01 k.mod fun b hb e => by have := c1.at_ e; omega
  have hpl : p.l = c.pool := by rw [hp]
  subst hp
  have kk1 := Ki.refl c1
  refine seq_cut (σ := Value × WT) (fun _ => [(1, .pointer (some ⟨M, 0, none⟩)), (4, .pointer (some ⟨X, 0, none⟩))]) (fun s w' => Ki w1 base ⟨A, q, c.pool⟩ h g (.slice none 0 0) w' s.1 s.2 ∧ Wri (n4) (4) ([], false) 3405691582 s.2) ?_ ?_
  rotate_left
  · intro K hK
    have hX1 := kk1.blk hX1 hXn
    have hM1 := kk1.blk hM1 hMn
    refine Exists.intro (some ⟨h, 0, none⟩) (And.intro (cell0 hX1) ?_)
    refine Exists.intro (some ⟨g, 0, none⟩) (And.intro (cellB kk1.wi.blk rfl) ?_)
    refine call_ (WUn base ⟨A, q, c.pool⟩ h g (.slice none 0 0) ([], false) 4 3405691582 w1 kk1.wi (by simp)) ?_
    rintro e w2 ⟨rfl, v2, k2⟩
    refine ⟨_, rfl, ?_⟩
    rw [← noteU_good goodMagic] at k2
    exact hK (v2, _) _ _ ⟨rfl, rfl, trivial⟩ ⟨kk1.then k2, Wri.n4⟩
  rintro ⟨v2, t2⟩ w2 fr2 ⟨kk2, q2⟩
  dsimp only at kk2 q2
  have p2 := q2.1
  try dsimp only at p2
  simp only [List.length_nil] at p2
  refine seq_cut (σ := Value × WT) (fun _ => [(1, .pointer (some ⟨M, 0, none⟩)), (4, .pointer (some ⟨X, 0, none⟩))]) (fun s w' => Ki w1 base ⟨A, q, c.pool⟩ h g (.slice none 0 0) w' s.1 s.2 ∧ Wri (seqT n2 n2) (4) t2 (0, 52) s.2) ?_ ?_
  rotate_left
  · intro K hK
    have hX2 := kk2.blk hX1 hXn
    have hM2 := kk2.blk hM1 hMn
    refine Exists.intro (some ⟨h, 0, none⟩) (And.intro (cell0 hX2) ?_)
    refine call_ (two1_ok base ⟨A, q, c.pool⟩ h g v2 t2 [0, 52] 2 w2 kk2.wi rfl (by simp; omega)) ?_
    rintro e w3 ⟨rfl, v3, k3⟩
    refine ⟨_, rfl, ?_⟩
    exact hK (v3, _) _ _ ⟨rfl, rfl, trivial⟩ ⟨kk2.then k3, Wri.two⟩
  rintro ⟨v3, t3⟩ w3 fr3 ⟨kk3, q3⟩
  dsimp only at kk3 q3
  have p3 := q3.1
  try dsimp only at p3
  refine seq_cut (σ := Value) (fun _ => [(1, .pointer (some ⟨M, 0, none⟩)), (4, .pointer (some ⟨X, 0, none⟩))]) (fun v' w' => Ki w1 base ⟨A, q, c.pool⟩ h g (.slice none 0 0) w' v' (t3.1 ++ poolF.enc c.pool, t3.2) ∧ Pool.okB c.pool = true) ?_ ?_
  rotate_left
  · intro K hK
    have hX3 := kk3.blk hX1 hXn
    have hM3 := kk3.blk hM1 hMn
    have nd := New.drew w3
    have kd := kk3.new nd
    have hC : (fun w'' : World => w''.heap[X]? = some (.cells #[.pointer (some ⟨h, 0, none⟩)] 78 (0, 0)) ∧ w''.heap[M]? = some (.cells #[.slice A c.pool.length q, strV c.name, strV c.super, .slice Af c.fields.length cf, .slice Am c.methods.length cm] 26 (0, 0)) ∧ w''.heap[h]? = some (.cells #[.pointer (some ⟨g, 0, none⟩), .slice A c.pool.length q, .bool t3.2] 82 (0, 0))) w3.drew := ⟨nd.blk hX3, nd.blk hM3, kd.wi.blk⟩
    rcases (Pool.chk_cases c.pool).symm with ⟨hc, ho⟩ | ⟨hc, ho⟩
    · refine draw_ (w := w3) ok (.q 0 (.q 1 (.q 2 (.q 3 (.q 4 (.q 5 (.e 6 (.q 7 .done)))))))) [7] (fun w'' : World => w''.heap[X]? = some (.cells #[.pointer (some ⟨h, 0, none⟩)] 78 (0, 0)) ∧ w''.heap[M]? = some (.cells #[.slice A c.pool.length q, strV c.name, strV c.super, .slice Af c.fields.length cf, .slice Am c.methods.length cm] 26 (0, 0)) ∧ w''.heap[h]? = some (.cells #[.pointer (some ⟨g, 0, none⟩), .slice A c.pool.length q, .bool t3.2] 82 (0, 0))) (by kernel_rfl) (by kernel_rfl) (by kernel_rfl) (by kernel_rfl) (by kernel_rfl) hC ?_
      refine Exists.intro (some ⟨h, 0, none⟩) (And.intro (fun w'' hw => cell0 hw.1) ?_)
      refine Exists.intro (some ⟨g, 0, none⟩) (And.intro (fun w'' hw => cellB hw.2.2 rfl) ?_)
      refine Exists.intro A (Exists.intro c.pool.length (Exists.intro q (And.intro (fun w'' hw => cellB hw.2.1 rfl) ?_)))
      refine call_ (Pool.Write_ok base g v3 t3.1 A c.pool.length q c.pool w3.drew kd.wi.wr kd.wi.cx.pl (fun a ha hn e => by have h1 := kd.wi.cx.low a ha hn; have h2 := kd.wi.at_ (.inl e); omega) (by omega) kd.wi.bw) ?_
      rintro e w4 ⟨rfl, v4, k4⟩
      refine ⟨_, rfl, ?_⟩
      have kj := kd.wi.act k4
      refine Exists.intro (fun w'' : World => w''.heap[X]? = some (.cells #[.pointer (some ⟨h, 0, none⟩)] 78 (0, 0)) ∧ w''.heap[M]? = some (.cells #[.slice A c.pool.length q, strV c.name, strV c.super, .slice Af c.fields.length cf, .slice Am c.methods.length cm] 26 (0, 0)) ∧ w''.heap[h]? = some (.cells #[.pointer (some ⟨g, 0, none⟩), .slice A c.pool.length q, .bool t3.2] 82 (0, 0))) ?_
      refine And.intro (fun _ h => h) ?_
      refine And.intro ⟨kj.blk hC.1 (kd.hid hXl hXn), kj.blk hC.2.1 (kd.hid (Array.getElem?_eq_some_iff.1 hM1).1 hMn), kj.wi.blk⟩ ?_
      rw [hc]
      rw [ho, if_pos rfl] at kj
      exact hK v4 _ _ ⟨rfl, rfl, trivial⟩ ⟨kd.then kj, ho⟩
    · refine draw_ (w := w3) ok (.q 0 (.q 1 (.q 2 (.q 3 (.q 4 (.q 5 (.e 6 (.q 7 .done)))))))) [7] (fun w'' : World => w''.heap[X]? = some (.cells #[.pointer (some ⟨h, 0, none⟩)] 78 (0, 0)) ∧ w''.heap[M]? = some (.cells #[.slice A c.pool.length q, strV c.name, strV c.super, .slice Af c.fields.length cf, .slice Am c.methods.length cm] 26 (0, 0)) ∧ w''.heap[h]? = some (.cells #[.pointer (some ⟨g, 0, none⟩), .slice A c.pool.length q, .bool t3.2] 82 (0, 0))) (by kernel_rfl) (by kernel_rfl) (by kernel_rfl) (by kernel_rfl) (by kernel_rfl) hC ?_
      refine Exists.intro (some ⟨h, 0, none⟩) (And.intro (fun w'' hw => cell0 hw.1) ?_)
      refine Exists.intro (some ⟨g, 0, none⟩) (And.intro (fun w'' hw => cellB hw.2.2 rfl) ?_)
      refine Exists.intro A (Exists.intro c.pool.length (Exists.intro q (And.intro (fun w'' hw => cellB hw.2.1 rfl) ?_)))
      refine call_ (Pool.Write_ok base g v3 t3.1 A c.pool.length q c.pool w3.drew kd.wi.wr kd.wi.cx.pl (fun a ha hn e => by have h1 := kd.wi.cx.low a ha hn; have h2 := kd.wi.at_ (.inl e); omega) (by omega) kd.wi.bw) ?_
      rintro e w4 ⟨rfl, v4, k4⟩
      refine ⟨_, rfl, ?_⟩
      have kj := kd.wi.act k4
      refine Exists.intro (fun w'' : World => w''.heap[X]? = some (.cells #[.pointer (some ⟨h, 0, none⟩)] 78 (0, 0)) ∧ w''.heap[M]? = some (.cells #[.slice A c.pool.length q, strV c.name, strV c.super, .slice Af c.fields.length cf, .slice Am c.methods.length cm] 26 (0, 0)) ∧ w''.heap[h]? = some (.cells #[.pointer (some ⟨g, 0, none⟩), .slice A c.pool.length q, .bool t3.2] 82 (0, 0))) ?_
      refine And.intro (fun _ h => h) ?_
      refine And.intro ⟨kj.blk hC.1 (kd.hid hXl hXn), kj.blk hC.2.1 (kd.hid (Array.getElem?_eq_some_iff.1 hM1).1 hMn), kj.wi.blk⟩ ?_
      rw [hc]
      exact pr_bad (not_pool ho) (fresh (kd.then kj))
  rintro v4 w4 fr4 ⟨kk4, ho⟩
  have hO : OkPool c.pool := (Pool.okB_iff c.pool).1 ho
  have q4 := Wri.pool (t := t3) (l := c.pool) ⟨ho, fun x hx => (hfp x hx).n⟩
  have hel := enc_len ho hfp
  generalize (t3.1 ++ poolF.enc c.pool, t3.2) = t4 at kk4 q4
  have p4 := q4.1
  refine seq_cut (σ := Value × WT) (fun _ => [(1, .pointer (some ⟨M, 0, none⟩)), (4, .pointer (some ⟨X, 0, none⟩))]) (fun s w' => Ki w1 base ⟨A, q, c.pool⟩ h g (.slice none 0 0) w' s.1 s.2 ∧ Wri (n2) (2) t4 33 s.2) ?_ ?_
  rotate_left
  · intro K hK
    have hX4 := kk4.blk hX1 hXn
    have hM4 := kk4.blk hM1 hMn
    refine Exists.intro (some ⟨h, 0, none⟩) (And.intro (cell0 hX4) ?_)
    refine call_ (two1_ok base ⟨A, q, c.pool⟩ h g v4 t4 [33] 1 w4 kk4.wi rfl (by simp; omega)) ?_
    rintro e w5 ⟨rfl, v5, k5⟩
    refine ⟨_, rfl, ?_⟩
    exact hK (v5, _) _ _ ⟨rfl, rfl, trivial⟩ ⟨kk4.then k5, Wri.n2⟩
  rintro ⟨v5, t5⟩ w5 fr5 ⟨kk5, q5⟩
  dsimp only at kk5 q5
  have p5 := q5.1
  try dsimp only at p5
  refine seq_cut (σ := Value × WT) (fun _ => [(1, .pointer (some ⟨M, 0, none⟩)), (4, .pointer (some ⟨X, 0, none⟩))]) (fun s w' => Ki w1 base ⟨A, q, c.pool⟩ h g (.slice none 0 0) w' s.1 s.2 ∧ Wri (clsT c.pool) (2) t5 c.name s.2) ?_ ?_
  rotate_left
  · intro K hK
    have hX5 := kk5.blk hX1 hXn
    have hM5 := kk5.blk hM1 hMn
    refine Exists.intro (some ⟨h, 0, none⟩) (And.intro (cell0 hX5) ?_)
    refine Exists.intro (⟨c.name.toArray⟩ : ByteArray) (And.intro (cellB hM5 rfl) ?_)
    refine call_ (wclass_ok ⟨A, q, c.pool⟩ base h g v5 t5 c.name w5 kk5.wi hO (by omega)) ?_
    rintro e w6 ⟨rfl, v6, t6, k6, wr6⟩
    refine ⟨_, rfl, ?_⟩
    exact hK (v6, t6) _ _ ⟨rfl, rfl, trivial⟩ ⟨kk5.then k6, wr6⟩
  rintro ⟨v6, t6⟩ w6 fr6 ⟨kk6, q6⟩
  dsimp only at kk6 q6
  have p6 := q6.1
  try dsimp only at p6
  refine seq_cut (σ := Value × WT) (fun _ => [(1, .pointer (some ⟨M, 0, none⟩)), (4, .pointer (some ⟨X, 0, none⟩))]) (fun s w' => Ki w1 base ⟨A, q, c.pool⟩ h g (.slice none 0 0) w' s.1 s.2 ∧ Wri (supT c.pool) 2 t6 c.super s.2) ?_ ?_
  rotate_left
  · intro K hK
    have hX6 := kk6.blk hX1 hXn
    have hM6 := kk6.blk hM1 hMn
    refine Exists.intro (⟨c.super.toArray⟩ : ByteArray) (And.intro (cellB hM6 rfl) ?_)
    refine if_ (fun hs => ?_) (fun hs => ?_)
    · rw [nil_str, decide_eq_true_eq] at hs
      refine Exists.intro (some ⟨h, 0, none⟩) (And.intro (cell0 hX6) ?_)
      refine call_ (two1_ok base ⟨A, q, c.pool⟩ h g v6 t6 [0] 1 w6 kk6.wi rfl (by simp; omega)) ?_
      rintro e w7 ⟨rfl, v7, k7⟩
      refine ⟨_, rfl, ?_⟩
      exact hK (v7, _) _ _ ⟨rfl, rfl, trivial⟩ ⟨kk6.then k7, Wri.sup0 Wri.n2 hs⟩
    · rw [nil_str, decide_eq_false_iff_not] at hs
      refine Exists.intro (some ⟨h, 0, none⟩) (And.intro (cell0 hX6) ?_)
      refine Exists.intro (⟨c.super.toArray⟩ : ByteArray) (And.intro (cellB hM6 rfl) ?_)
      refine call_ (wclass_ok ⟨A, q, c.pool⟩ base h g v6 t6 c.super w6 kk6.wi hO (by omega)) ?_
      rintro e w7 ⟨rfl, v7, t7, k7, wr7⟩
      refine ⟨_, rfl, ?_⟩
      exact hK (v7, t7) _ _ ⟨rfl, rfl, trivial⟩ ⟨kk6.then k7, Wri.sup1 wr7 hs⟩
  rintro ⟨v7, t7⟩ w7 fr7 ⟨kk7, q7⟩
  dsimp only at kk7 q7
  have p7 := q7.1
  refine seq_cut (σ := Value × WT) (fun _ => [(1, .pointer (some ⟨M, 0, none⟩)), (4, .pointer (some ⟨X, 0, none⟩))]) (fun s w' => Ki w1 base ⟨A, q, c.pool⟩ h g (.slice none 0 0) w' s.1 s.2 ∧ Wri (n2) (2) t7 0 s.2) ?_ ?_
  rotate_left
  · intro K hK
    have hX7 := kk7.blk hX1 hXn
    have hM7 := kk7.blk hM1 hMn
    refine Exists.intro (some ⟨h, 0, none⟩) (And.intro (cell0 hX7) ?_)
    refine call_ (two1_ok base ⟨A, q, c.pool⟩ h g v7 t7 [0] 1 w7 kk7.wi rfl (by simp; omega)) ?_
    rintro e w8 ⟨rfl, v8, k8⟩
    refine ⟨_, rfl, ?_⟩
    exact hK (v8, _) _ _ ⟨rfl, rfl, trivial⟩ ⟨kk7.then k8, Wri.n2⟩
  rintro ⟨v8, t8⟩ w8 fr8 ⟨kk8, q8⟩
  dsimp only at kk8 q8
  have p8 := q8.1
  try dsimp only at p8
  refine seq_cut (σ := Value × WT) (fun _ => [(1, .pointer (some ⟨M, 0, none⟩)), (4, .pointer (some ⟨X, 0, none⟩))]) (fun s w' => Ki w1 base ⟨A, q, c.pool⟩ h g (.slice none 0 0) w' s.1 s.2 ∧ Wri (fldsT c.pool) (2 + csum cFld c.fields) t8 c.fields s.2) ?_ ?_
  rotate_left
  · intro K hK
    have hX8 := kk8.blk hX1 hXn
    have hM8 := kk8.blk hM1 hMn
    refine Exists.intro (some ⟨h, 0, none⟩) (And.intro (cell0 hX8) ?_)
    refine Exists.intro Af (Exists.intro c.fields.length (Exists.intro cf (And.intro (cellB hM8 rfl) ?_)))
    refine call_ (list_fld ⟨A, q, c.pool⟩ base h g v8 t8 _ c.fields X w8 kk8.wi hO (kk8.lrep fldOk (by decide) hf1) hX8 (kk8.hid hXl hXn) hff (by omega)) ?_
    rintro e w9 ⟨rfl, v9, t9, k9, wr9⟩
    refine ⟨_, rfl, ?_⟩
    exact hK (v9, t9) _ _ ⟨rfl, rfl, trivial⟩ ⟨kk8.then k9, wr9⟩
  rintro ⟨v9, t9⟩ w9 fr9 ⟨kk9, q9⟩
  dsimp only at kk9 q9
  have p9 := q9.1
  try dsimp only at p9
  refine seq_cut (σ := Value × WT) (fun _ => [(1, .pointer (some ⟨M, 0, none⟩)), (4, .pointer (some ⟨X, 0, none⟩))]) (fun s w' => Ki w1 base ⟨A, q, c.pool⟩ h g (.slice none 0 0) w' s.1 s.2 ∧ Wri (mthsT c.pool) (2 + csum cMth c.methods) t9 c.methods s.2) ?_ ?_
  rotate_left
  · intro K hK
    have hX9 := kk9.blk hX1 hXn
    have hM9 := kk9.blk hM1 hMn
    refine Exists.intro (some ⟨h, 0, none⟩) (And.intro (cell0 hX9) ?_)
    refine Exists.intro Am (Exists.intro c.methods.length (Exists.intro cm (And.intro (cellB hM9 rfl) ?_)))
    refine call_ (list_mth ⟨A, q, c.pool⟩ base h g v9 t9 _ c.methods X w9 kk9.wi hO (kk9.lrep mthOk (by decide) hm1) hX9 (kk9.hid hXl hXn) hfm (by omega)) ?_
    rintro e w10 ⟨rfl, v10, t10, k10, wr10⟩
    refine ⟨_, rfl, ?_⟩
    exact hK (v10, t10) _ _ ⟨rfl, rfl, trivial⟩ ⟨kk9.then k10, wr10⟩
  rintro ⟨v10, t10⟩ w10 fr10 ⟨kk10, q10⟩
  dsimp only at kk10 q10
  have p10 := q10.1
  try dsimp only at p10
  refine seq_cut (σ := Value × WT) (fun _ => [(1, .pointer (some ⟨M, 0, none⟩)), (4, .pointer (some ⟨X, 0, none⟩))]) (fun s w' => Ki w1 base ⟨A, q, c.pool⟩ h g (.slice none 0 0) w' s.1 s.2 ∧ Wri (n2) (2) t10 0 s.2) ?_ ?_
  rotate_left
  · intro K hK
    have hX10 := kk10.blk hX1 hXn
    have hM10 := kk10.blk hM1 hMn
    refine Exists.intro (some ⟨h, 0, none⟩) (And.intro (cell0 hX10) ?_)
    refine call_ (two1_ok base ⟨A, q, c.pool⟩ h g v10 t10 [0] 1 w10 kk10.wi rfl (by simp; omega)) ?_
    rintro e w11 ⟨rfl, v11, k11⟩
    refine ⟨_, rfl, ?_⟩
    exact hK (v11, _) _ _ ⟨rfl, rfl, trivial⟩ ⟨kk10.then k11, Wri.n2⟩
  rintro ⟨v11, t11⟩ w11 fr11 ⟨kk11, q11⟩
  dsimp only at kk11 q11
  have p11 := q11.1
  try dsimp only at p11
  have hfile := wri_file (Wri.by_ (q2.seq (Wri.assoc (q3.seq (Wri.dseq q4 (q5.seq (q6.seq (q7.seq (q8.seq (q9.seq (q10.seq q11)))))))))))
  have hX11 := kk11.blk hX1 hXn
  have nw := fresh kk11
  refine seq_cut (σ := Unit) (fun _ => [(1, .pointer (some ⟨M, 0, none⟩)), (4, .pointer (some ⟨X, 0, none⟩))]) (fun _ w' => w' = w11 ∧ t11.2 = false ∧ t11.1.length ≤ 32768) ?_ ?_
  rotate_left
  · intro K hK
    refine block_ ?_
    refine Exists.intro (some ⟨h, 0, none⟩) (And.intro (cell0 hX11) ?_)
    refine Exists.intro t11.2 (And.intro (cellB kk11.wi.blk rfl) ?_)
    refine if_ (fun hbad => ?_) (fun hbad => ?_)
    · exact pr_bad (hfile.1 hbad) nw
    · refine Exists.intro (some ⟨h, 0, none⟩) (And.intro (cell0 hX11) ?_)
      refine Exists.intro (some ⟨g, 0, none⟩) (And.intro (cellB kk11.wi.blk rfl) ?_)
      refine call_ (Len_ok base g v11 t11.1 w11 kk11.wi.wr) ?_
      rintro e wb ⟨rfl, hwb⟩
      obtain rfl := hwb.symm
      refine ⟨_, rfl, ?_⟩
      refine if_p (fun hp => ?_) (fun hp => ?_)
      · replace hp : (32768 : Int) < (t11.1.length : Int) := hp
        exact pr_bad (hfile.2.1 hbad (by omega)) nw
      · replace hp : ¬ (32768 : Int) < (t11.1.length : Int) := hp
        exact hK () _ _ ⟨rfl, rfl, trivial⟩ ⟨rfl, hbad, by omega⟩
  rintro _ wy fry ⟨hwy, hgood, hle⟩
  obtain rfl := hwy.symm
  obtain ⟨he, hbs⟩ := hfile.2.2 hgood hle
  refine Exists.intro (some ⟨h, 0, none⟩) (And.intro (cell0 hX11) ?_)
  refine Exists.intro (some ⟨g, 0, none⟩) (And.intro (cellB kk11.wi.blk rfl) ?_)
  refine call_ (All_ok base g v11 t11.1 w11 kk11.wi.wr (by omega)) ?_
  rintro e wz ⟨u, rfl, ownz, nz⟩
  refine ⟨_, rfl, ?_⟩
  obtain ⟨Az, cz, rfl, h5, h6, rowz, _⟩ := own_slice ownz
  rw [← hbs] at rowz h5
  exact ⟨Az, cz, by rw [he, hbs]; rfl, rowz, h5, h6, nw.trans nz⟩

theorem Check_ok (cs0 : List Value) (c : Cls) (S : Nat → Prop) (w : World) (hx : clsR w S cs0 c) (hf : fCls c) (hk : Kt w) (hG : 0 < w.heap.size) (hm : cCls c ≤ 500000000) :
    Calls Tryd.prog 16 #[.agg cs0.toArray] w fun e w' => e = .returned (zi (errOf c)) ∧ New w w' := by
  have hx0 := hx
  obtain ⟨_, _, _, rfl, lp, lf, lm⟩ := hx
  obtain ⟨A, q, rfl, _⟩ := lp.get entOk (by decide)
  obtain ⟨Af, cf, rfl, _⟩ := lf.get fldOk (by decide)
  obtain ⟨Am, cm, rfl, _⟩ := lm.get mthOk (by decide)
  refine enter ok Tryd.func16 rfl rfl rfl ?_
  refine seq_cut (σ := Unit) (fun _ => [(1, .pointer (some ⟨w.heap.size, 0, none⟩))]) (fun _ w' => New w w' ∧ w'.heap[w.heap.size]? = some (.cells #[.slice A c.pool.length q, strV c.name, strV c.super, .slice Af c.fields.length cf, .slice Am c.methods.length cm] 26 (0, 0))) ?_ ?_
  rotate_left
  · intro K hK
    exact hK () _ _ ⟨rfl, trivial⟩ ⟨New.alloc w _, heap_alloc_new w (.cells #[.slice A c.pool.length q, strV c.name, strV c.super, .slice Af c.fields.length cf, .slice Am c.methods.length cm] 26)⟩
  rintro _ wa fra ⟨na, hMa⟩
  have hs := na.size
  refine loadN_row (vs := [.slice A c.pool.length q, strV c.name, strV c.super, .slice Af c.fields.length cf, .slice Am c.methods.length cm]) (rowB hMa) rfl ?_
  refine call_ (Print_ok [.slice A c.pool.length q, strV c.name, strV c.super, .slice Af c.fields.length cf, .slice Am c.methods.length cm] c S wa (clsOk.mod hx0 (na.mod.mono fun _ _ e => False.elim e)) hf (fun k h0 h5 => na.cell (hk k h0 h5)) (by omega) hm) ?_
  rintro e w1 ⟨A2, q2, rfl, _, _, _, n1⟩
  refine ⟨_, rfl, ?_⟩
  exact ⟨rfl, na.trans n1⟩

end Go.Proofs.YtdcaafldnbcdkaaDoor.Class

/-! ### KWorks -/
namespace Go.Proofs.YtdcaafldnbcdkaaDoor.Class
open Go Go.Proofs.YtdcaafldnbcdkaaDoor Go.Proofs.YtdcaafldnbcdkaaDoor.Eng Go.Proofs Go.Proofs.YtdcaafldnbcdkaaDoor.Word Go.Proofs.YtdcaafldnbcdkaaDoor.Fmt
open Go.Proofs.YtdcaafldnbcdkaaDoor.Pool (Ent at_ poolF strV entC entV EntOk Pl OkPool both own_low tagAt)
set_option maxRecDepth 10000

def smallC : Cls := ⟨[⟨0, [], 0, 0, 0⟩, ⟨1, [97], 0, 0, 0⟩, ⟨7, [], 0, 1, 0⟩], [97], [], [], []⟩
def smallB : List UInt8 := [202, 254, 186, 190, 0, 0, 0, 52, 0, 3, 1, 0, 1, 97, 7, 0, 1, 0, 33, 0, 2, 0, 0, 0, 0, 0, 0, 0, 0, 0, 0]
theorem small_ok (w : World) : Calls Tryd.prog 22 #[] w fun e w' => ∃ cs, e = .returned (.agg (List.toArray cs)) ∧ clsR w' (fun b => b < w.heap.size) cs smallC ∧ New w w' := by
  refine enter ok Tryd.func22 rfl rfl rfl ?_
  refine seq_cut (σ := Unit) (fun _ => [(0, .pointer (some ⟨w.heap.size, 0, none⟩))]) (fun _ w' => New w w' ∧ w'.heap.size = w.heap.size + 1 ∧ w'.heap[w.heap.size]? = some (.cells #[.slice none 0 0, .string ⟨#[]⟩, .string ⟨#[]⟩, .slice none 0 0, .slice none 0 0] 26 (0, 0))) ?_ ?_
  rotate_left
  · intro K hK
    exact hK () _ _ ⟨rfl, trivial⟩ ⟨New.alloc w _, by simp, heap_alloc_new w (.cells #[.slice none 0 0, .string ⟨#[]⟩, .string ⟨#[]⟩, .slice none 0 0, .slice none 0 0] 26)⟩
  rintro _ w1 fr1 ⟨n1, s1, hb1⟩
  have n2 := New.alloc w1 (.cells #[zi 0, strV [], zi 0, zi 0, zi 0, zi 1, strV [97], zi 0, zi 0, zi 0, zi 7, strV [], zi 0, zi 1, zi 0] 42)
  have row2 := row_alloc w1 [zi 0, strV [], zi 0, zi 0, zi 0, zi 1, strV [97], zi 0, zi 0, zi 0, zi 7, strV [], zi 0, zi 1, zi 0] 42 (0, 0)
  have hb2 := n2.blk hb1
  refine And.intro rfl ?_
  rw [s1]
  refine storeN_all (vs := [.slice (some ⟨w.heap.size + 1, 0, none⟩) 3 3, strV [97], strV [], .slice none 0 0, .slice none 0 0]) hb2 rfl (fun u hu => by
    simp only [List.mem_cons, List.not_mem_nil, or_false] at hu
    rcases hu with rfl | rfl | rfl | rfl | rfl <;> rfl) ?_
  intro w3 hb3 m3 s3
  refine loadN_row (vs := [.slice (some ⟨w.heap.size + 1, 0, none⟩) 3 3, strV [97], strV [], .slice none 0 0, .slice none 0 0]) (rowB hb3) rfl ?_
  have n3 : New w w3 := (n1.trans n2).st m3 (Nat.le_refl _)
  have hsz : (w1.alloc (.cells #[zi 0, strV [], zi 0, zi 0, zi 0, zi 1, strV [97], zi 0, zi 0, zi 0, zi 7, strV [], zi 0, zi 1, zi 0] 42)).heap.size = w.heap.size + 2 := by simp; omega
  have hl : (w1.alloc (.cells #[zi 0, strV [], zi 0, zi 0, zi 0, zi 1, strV [97], zi 0, zi 0, zi 0, zi 7, strV [], zi 0, zi 1, zi 0] 42)).heap.size ≤ w3.heap.size := m3.size
  refine ⟨_, rfl, ⟨_, _, _, rfl, ⟨some ⟨w.heap.size + 1, 0, none⟩, 3, smallC.pool.map fun x => (entC x, x), rfl, rfl, Nat.le_refl _, by omega, by decide, ?_, ?_, ?_⟩, LRep.nil _ _ _ trivial, LRep.nil _ _ _ trivial⟩, n3⟩
  · rw [s1] at row2
    exact row2.mod m3 fun a ha => by cases ha; show ¬ w.heap.size + 1 = w.heap.size; omega
  · intro a ha _
    cases ha
    exact ⟨by show w.heap.size + 1 < _; omega, by show ¬ w.heap.size + 1 < w.heap.size; omega⟩
  · intro t ht
    obtain ⟨x, _, rfl⟩ := List.mem_map.1 ht
    rfl
theorem small_enc : fileT.enc smallC = smallB := by rfl
theorem small_idx : idx (clsP smallC.pool) smallC.pool [97] = 2 := by rfl
theorem small_file : fileT.ok smallC := by
  have h0 : ∀ n : Int, 0 ≤ n → n < 65536 → n2.ok n := fun n h1 h2 => n2_ok h1 h2
  have hm : n4.ok 3405691582 := ⟨by rfl, by unfold i64; decide⟩
  refine ⟨trivial, hm, h0 0 (by decide) (by decide), h0 52 (by decide) (by decide), ⟨by rfl, fun x hx => ?_⟩, h0 33 (by decide) (by decide), ?_, .inl rfl, h0 0 (by decide) (by decide), ⟨Nat.zero_le _, fun _ h => (by cases h)⟩, ⟨Nat.zero_le _, fun _ h => (by cases h)⟩, h0 0 (by decide) (by decide)⟩
  · simp only [smallC, List.mem_cons, List.not_mem_nil, or_false] at hx
    rcases hx with rfl | rfl | rfl <;> (unfold i64; decide)
  · refine ⟨⟨?_, ?_⟩, ?_⟩
    · show 0 < idx (clsP smallC.pool) smallC.pool [97]
      rw [small_idx]
      decide
    · show idx (clsP smallC.pool) smallC.pool [97] < 3
      rw [small_idx]
      decide
    · show n2.ok ((idx (clsP smallC.pool) smallC.pool [97] : Nat) : Int)
      rw [small_idx]
      exact h0 2 (by decide) (by decide)
theorem small_err : errOf smallC = 0 ∧ bytesOf smallC = smallB := by
  rcases err_cases smallC with ⟨h1, _, _, h2⟩ | ⟨h1, _⟩ | ⟨h1, _⟩
  · exact ⟨h1, h2.trans small_enc⟩
  · unfold errOf at h1
    rw [if_pos small_file, small_enc] at h1
    exact absurd h1 (by decide)
  · unfold errOf at h1
    rw [if_pos small_file, small_enc] at h1
    exact absurd h1 (by decide)
theorem small_fine : fCls smallC := ⟨fun x hx => by
    simp only [smallC, List.mem_cons, List.not_mem_nil, or_false] at hx
    rcases hx with rfl | rfl | rfl <;> exact ⟨by unfold Pool.I64; decide, by decide, by unfold Pool.I64; decide, by unfold Pool.I64; decide, by unfold Pool.I64; decide⟩, fun _ h => (by cases h), fun _ h => (by cases h)⟩
theorem works_ok (w : World) (hk : Kt w) (hG : 0 < w.heap.size) : Calls Tryd.prog 9 #[] w fun e w' => e = .returned (.bool true) ∧ New w w' := by
  refine enter ok Tryd.func9 rfl rfl rfl ?_
  refine seq_assign ?_
  refine seq_cut (σ := (Option Addr × Nat) × Int) (fun t => [(1, .slice t.1.1 31 t.1.2), (2, zi t.2)]) (fun t w' => New w w' ∧ t.2 = 0 ∧ Row w' t.1.1 (bvs smallB)) ?_ ?_
  rotate_left
  · intro K hK
    refine call_ (small_ok w) ?_
    rintro e w1 ⟨cs, rfl, hc, n1⟩
    have hc0 := hc
    obtain ⟨_, _, _, rfl, lp, lf, lm⟩ := hc
    obtain ⟨A, q, rfl, _⟩ := lp.get entOk (by decide)
    obtain ⟨Af, cf, rfl, _⟩ := lf.get fldOk (by decide)
    obtain ⟨Am, cm, rfl, _⟩ := lm.get mthOk (by decide)
    refine ⟨_, rfl, ?_⟩
    have hs := n1.size
    refine call_ (Print_ok _ smallC _ w1 hc0 small_fine (fun k h0 h5 => n1.cell (hk k h0 h5)) (by omega) (by decide)) ?_
    rintro e w2 ⟨A2, q2, rfl, row2, _, _, n2⟩
    rw [small_err.2] at row2
    rw [small_err.1, small_err.2]
    refine ⟨_, rfl, ?_⟩
    exact hK ((A2, q2), 0) _ _ ⟨rfl, rfl, trivial⟩ ⟨n1.trans n2, rfl, row2⟩
  rintro ⟨⟨A2, q2⟩, er⟩ w1 fr1 ⟨n1, her, row1⟩
  dsimp only at her row1
  refine if_p (fun _ => ?_) (fun h => absurd her h)
  refine Exists.intro smallB (And.intro rfl (And.intro row1 ?_))
  exact ⟨(show Ending.returned (.bool (decide ((⟨smallB.toArray⟩ : ByteArray) = ⟨smallB.toArray⟩))) = .returned (.bool true) by rw [decide_eq_true rfl]), n1⟩

end Go.Proofs.YtdcaafldnbcdkaaDoor.Class

/-! ### KLight -/
namespace Go.Proofs.YtdcaafldnbcdkaaDoor.Class
open Go Go.Proofs.YtdcaafldnbcdkaaDoor Go.Proofs.YtdcaafldnbcdkaaDoor.Eng Go.Proofs Go.Proofs.YtdcaafldnbcdkaaDoor.Word Go.Proofs.YtdcaafldnbcdkaaDoor.Fmt
open Go.Proofs.YtdcaafldnbcdkaaDoor.Pool (Ent at_ poolF strV entC entV EntOk Pl OkPool both own_low tagAt)
set_option maxRecDepth 10000

def wMp (p : Mp) : Nat := 1 + p.locals.length + p.stack.length
def wMth (m : Mth) : Nat := m.code.bytes.length + m.code.hands.length + csum wMp m.code.maps
def weigh (c : Cls) : Nat := c.pool.length + c.fields.length + c.methods.length + csum wMth c.methods
theorem csum_bound {α : Type} (f g : α → Nat) (k d : Nat) (h : ∀ x, f x ≤ d + k * g x) : ∀ l : List α, csum f l ≤ d * l.length + k * csum g l
  | [] => by simp [csum]
  | x :: l => by
    have h1 := csum_bound f g k d h l
    have h2 := h x
    rw [csum_cons, csum_cons, List.length_cons, Nat.mul_add, Nat.mul_add]
    omega
theorem cost_weigh (c : Cls) : cCls c ≤ 34 * weigh c := by
  have h1 := csum_const (f := cFld) (n := 8) (fun _ => rfl) c.fields
  have h2 := csum_bound cMth wMth 8 34 (fun m => by
    have h3 := csum_bound cMp wMp 7 0 (fun p => by unfold cMp wMp; omega) m.code.maps
    have h4 := csum_const (f := cHnd) (n := 8) (fun _ => rfl) m.code.hands
    unfold cMth cCod wMth
    omega) c.methods
  unfold cCls weigh
  omega
/-- How far one has counted. -/
def Far (q : Int) (n : Nat) : Prop := 0 ≤ q ∧ q ≤ 1125899906842624 ∧ (5000 ≤ q ∨ (n : Int) ≤ q)
theorem Far.add {q : Int} {n k : Nat} (h : Far q n) (hq : q < 5000) (hk : k ≤ 562949953421312) : Far (q + k) (n + k) := by
  obtain ⟨a, b, c⟩ := h
  refine ⟨by omega, by omega, ?_⟩
  rcases c with c | c
  · omega
  · exact .inr (by omega)
theorem Far.over {q : Int} {n : Nat} (h : Far q n) (hq : 5000 ≤ q) (k : Nat) : Far q k := ⟨h.1, h.2.1, .inl hq⟩
theorem light_ok (cs0 : List Value) (c : Cls) (S : Nat → Prop) (w : World) (hx : clsR w S cs0 c) :
    Calls Tryd.prog 10 #[.agg cs0.toArray] w fun e w' => ∃ b, e = .returned (.bool b) ∧ (b = true → cCls c ≤ 170000 ∧ weigh c < 5000) ∧ New w w' := by
  have hx0 := hx
  obtain ⟨_, _, _, rfl, lp, lf, lm⟩ := hx
  obtain ⟨A, q0, rfl, bp, _⟩ := lp.get entOk (by decide)
  obtain ⟨Af, cf, rfl, bf, _⟩ := lf.get fldOk (by decide)
  have lm0 := lm
  obtain ⟨Am, cm, rfl, bm, _⟩ := lm.get mthOk (by decide)
  refine enter ok Tryd.func10 rfl rfl rfl ?_
  refine seq_cut (σ := Unit) (fun _ => [(1, .pointer (some ⟨w.heap.size, 0, none⟩))]) (fun _ w' => New w w' ∧ w'.heap[w.heap.size]? = some (.cells #[.slice A c.pool.length q0, strV c.name, strV c.super, .slice Af c.fields.length cf, .slice Am c.methods.length cm] 26 (0, 0))) ?_ ?_
  rotate_left
  · intro K hK
    exact hK () _ _ ⟨rfl, trivial⟩ ⟨New.alloc w _, heap_alloc_new w (.cells #[.slice A c.pool.length q0, strV c.name, strV c.super, .slice Af c.fields.length cf, .slice Am c.methods.length cm] 26)⟩
  rintro _ w1 fr1 ⟨n1, hM⟩
  obtain ⟨X, hX⟩ : ∃ X, X = w.heap.size := ⟨_, rfl⟩
  rw [← hX] at hM ⊢
  refine seq_cut (σ := Int) (fun s => [(1, .pointer (some ⟨X, 0, none⟩)), (3, zi s)]) (fun q w' => w' = w1 ∧ Far q (c.pool.length + c.fields.length + c.methods.length)) ?_ ?_
  rotate_left
  · intro K hK
    refine Exists.intro A (Exists.intro c.pool.length (Exists.intro q0 (And.intro (cellB hM rfl) ?_)))
    refine Exists.intro Af (Exists.intro c.fields.length (Exists.intro cf (And.intro (cellB hM rfl) ?_)))
    refine Exists.intro Am (Exists.intro c.methods.length (Exists.intro cm (And.intro (cellB hM rfl) ?_)))
    refine hK ((c.pool.length + c.fields.length + c.methods.length : Nat) : Int) _ _ ⟨rfl, ?_, trivial⟩ ⟨rfl, by omega, by omega, .inr (Int.le_refl _)⟩
    show zi (IntKind.i64.wrap (IntKind.i64.wrap ((c.pool.length : Int) + c.fields.length) + c.methods.length)) = _
    rw [wrap_i64 (n := (c.pool.length : Int) + c.fields.length) (by omega) (by omega), wrap_i64 (by omega) (by omega)]
    rfl
  rintro q1 wy fry ⟨hwy, far1⟩
  obtain rfl := hwy.symm
  generalize hN : c.pool.length + c.fields.length + c.methods.length = N at far1
  refine seq_cut (σ := Int) (fun s => [(1, .pointer (some ⟨X, 0, none⟩)), (3, zi s)]) (fun q w' => New w w' ∧ Far q (N + csum wMth c.methods)) ?_ ?_
  · rintro q wf frf ⟨nf, farf⟩
    refine ⟨_, rfl, fun hb => ?_, nf⟩
    have h3 := of_decide_eq_true hb
    have := cost_weigh c
    have hwe : weigh c = N + csum wMth c.methods := by rw [← hN]; rfl
    obtain ⟨_, _, h⟩ := farf
    omega
  intro K hK
  refine seq_assign ?_
  refine den_loop (σ := Int × Nat) (fun s => [(1, .pointer (some ⟨X, 0, none⟩)), (3, zi s.1), (4, zi (s.2 : Int))]) (fun f s wl => f + s.2 = c.methods.length ∧ New w wl ∧ wl.heap[X]? = some (.cells #[.slice A c.pool.length q0, strV c.name, strV c.super, .slice Af c.fields.length cf, .slice Am c.methods.length cm] 26 (0, 0)) ∧ Far s.1 (N + csum wMth (c.methods.take s.2))) c.methods.length (q1, 0)
    ⟨rfl, rfl, rfl, trivial⟩ ⟨rfl, n1, hM, by simpa [csum] using far1⟩ ?_
  rintro f ⟨q, i⟩ wl frl ⟨hfuel, nl, hMl, far⟩
  dsimp only at hfuel far
  refine seq_cut (σ := Unit) (fun _ => [(1, .pointer (some ⟨X, 0, none⟩)), (3, zi q), (4, zi (i : Int))]) (fun _ w' => w' = wl ∧ i < c.methods.length ∧ q < 5000) ?_ ?_
  rotate_left
  · intro K2 hK2
    refine Exists.intro Am (Exists.intro c.methods.length (Exists.intro cm (And.intro (cellB hMl rfl) ?_)))
    refine if_p (fun hlt => ?_) (fun hge => ?_)
    · replace hlt : (i : Int) < (c.methods.length : Int) := hlt
      refine if_p (fun h5 => ?_) (fun h5 => ?_)
      · exact hK2 () _ _ ⟨rfl, rfl, rfl, trivial⟩ ⟨rfl, by omega, h5⟩
      · replace h5 : ¬ q < 5000 := h5
        exact hK q _ _ ⟨rfl, rfl, trivial⟩ ⟨nl, far.over (by omega) _⟩
    · replace hge : ¬ (i : Int) < (c.methods.length : Int) := hge
      rw [List.take_of_length_le (by omega)] at far
      exact hK q _ _ ⟨rfl, rfl, trivial⟩ ⟨nl, far⟩
  rintro _ wz frz ⟨hwz, hi, h5⟩
  obtain rfl := hwz.symm
  have hlt : (i : Int) < (c.methods.length : Int) := by omega
  obtain ⟨f, rfl⟩ : ∃ f', f = f' + 1 := ⟨f - 1, by omega⟩
  have inc : Value.int .i64 (IntKind.i64.wrap ((i : Int) + 1)) = .int .i64 ((i + 1 : Nat) : Int) := incN hi bm
  obtain ⟨_, _, he, _, gx⟩ := (LRep.mod mthOk (by decide) lm0 (nl.mod.mono fun _ _ e => False.elim e)).get mthOk (by decide)
  cases he
  obtain ⟨a, cs, ea, hy, hc⟩ := gx i hi
  have hnext : N + csum wMth (c.methods.take (i + 1)) = N + csum wMth (c.methods.take i) + wMth c.methods[i] := by
    rw [List.take_succ_eq_append_getElem hi, csum_snoc]
    omega
  generalize hyy : c.methods[i] = y at hy hnext
  obtain ⟨_, _, _, rfl, lb, lh, lq⟩ := hy
  obtain ⟨Ab, cb, rfl, bb, _⟩ := lb.get u8Ok (by decide)
  obtain ⟨Ah, ch, rfl, bh, _⟩ := lh.get hndOk (by decide)
  have lq0 := lq
  obtain ⟨Ap, cp, rfl, bq, _⟩ := lq.get mpOk (by decide)
  refine seq_cut (σ := Int) (fun s => [(1, .pointer (some ⟨X, 0, none⟩)), (3, zi s), (4, zi (i : Int))]) (fun q' w' => New wl w' ∧ Far q' (N + csum wMth (c.methods.take (i + 1)))) ?_ ?_
  · rintro q' wx frx ⟨nx, far'⟩
    exact ⟨f, (q', i + 1), by omega, ⟨rfl, rfl, inc, trivial⟩, by dsimp only; omega, nl.trans nx, nx.blk hMl, far'⟩
  intro K3 hK3
  refine block_ ?_
  refine seq_cut (σ := Nat) (fun E => [(1, .pointer (some ⟨X, 0, none⟩)), (3, zi q), (4, zi (i : Int)), (5, .pointer (some ⟨E, 0, none⟩))]) (fun E w' => New wl w' ∧ w'.heap[E]? = some (.cells #[zi y.code.stack, zi y.code.locals, .slice Ab y.code.bytes.length cb, .slice Ah y.code.hands.length ch, .slice Ap y.code.maps.length cp] 34 (0, 0))) ?_ ?_
  rotate_left
  · intro K4 hK4
    refine Exists.intro Am (Exists.intro c.methods.length (Exists.intro cm (And.intro (cellB hMl rfl) ?_)))
    refine And.intro (by omega) (And.intro hlt ?_)
    refine some_at ea ?_
    refine loadN_row (vs := [zi y.code.stack, zi y.code.locals, .slice Ab y.code.bytes.length cb, .slice Ah y.code.hands.length ch, .slice Ap y.code.maps.length cp]) (fun j u hu => by
      rw [Int.toNat_natCast]
      show wl.cell? (((a.add (i * 8)).add 3).add j) = some u
      rw [add_add_ _ 3 j]
      have h8 : ([zi y.acc, strV y.name, strV y.typ] ++ [zi y.code.stack, zi y.code.locals, .slice Ab y.code.bytes.length cb, .slice Ah y.code.hands.length ch, .slice Ap y.code.maps.length cp])[3 + j]? = some u := by
        rw [List.getElem?_append_right (show 3 ≤ 3 + j by omega)]
        show [zi y.code.stack, zi y.code.locals, .slice Ab y.code.bytes.length cb, .slice Ah y.code.hands.length ch, .slice Ap y.code.maps.length cp][3 + j - 3]? = _
        rw [Nat.add_sub_cancel_left]
        exact hu
      exact hc (3 + j) u h8) rfl ?_
    refine And.intro rfl ?_
    refine storeNew (vs := [zi y.code.stack, zi y.code.locals, .slice Ab y.code.bytes.length cb, .slice Ah y.code.hands.length ch, .slice Ap y.code.maps.length cp]) (arr := #[zi 0, zi 0, .slice none 0 0, .slice none 0 0, .slice none 0 0]) rfl (codOk.one (w := wl) (S := S) (x := y.code) ⟨_, _, _, rfl, lb, lh, lq0⟩) ?_
    intro w5 hb5 n5 s5
    exact hK4 wl.heap.size _ _ ⟨rfl, rfl, rfl, rfl, trivial⟩ ⟨n5, hb5⟩
  rintro E w5 fr5 ⟨n5, hE⟩
  have hM5 := n5.blk hMl
  have nl5 := nl.trans n5
  refine seq_cut (σ := Int) (fun s => [(1, .pointer (some ⟨X, 0, none⟩)), (3, zi s), (4, zi (i : Int)), (5, .pointer (some ⟨E, 0, none⟩))]) (fun q' w' => w' = w5 ∧ Far q' (N + csum wMth (c.methods.take i) + (y.code.bytes.length + y.code.hands.length))) ?_ ?_
  rotate_left
  · intro K4 hK4
    refine Exists.intro Ab (Exists.intro y.code.bytes.length (Exists.intro cb (And.intro (cellB hE rfl) ?_)))
    refine Exists.intro Ah (Exists.intro y.code.hands.length (Exists.intro ch (And.intro (cellB hE rfl) ?_)))
    have hq := far.1
    refine hK4 (q + ((y.code.bytes.length + y.code.hands.length : Nat) : Int)) _ _ ⟨rfl, ?_, rfl, rfl, trivial⟩ ⟨rfl, far.add h5 (by omega)⟩
    show zi (IntKind.i64.wrap (q + IntKind.i64.wrap ((y.code.bytes.length : Int) + y.code.hands.length))) = _
    rw [wrap_i64 (n := (y.code.bytes.length : Int) + y.code.hands.length) (by omega) (by omega), wrap_i64 (by omega) (by omega)]
    rfl
  rintro q6 wz6 frz6 ⟨hwz6, far6⟩
  obtain rfl := hwz6.symm
  have lq5 := LRep.mod mpOk (by decide) lq0 (n5.mod.mono fun _ _ e => False.elim e)
  refine seq_assign ?_
  refine den_loop (σ := Int × Nat) (fun s => [(1, .pointer (some ⟨X, 0, none⟩)), (3, zi s.1), (4, zi (i : Int)), (5, .pointer (some ⟨E, 0, none⟩)), (6, zi (s.2 : Int))]) (fun g s wk => g + s.2 = y.code.maps.length ∧ New w5 wk ∧ Far s.1 (N + csum wMth (c.methods.take i) + (y.code.bytes.length + y.code.hands.length) + csum wMp (y.code.maps.take s.2))) y.code.maps.length (q6, 0)
    ⟨rfl, rfl, rfl, rfl, rfl, trivial⟩ ⟨rfl, New.refl _, by simpa [csum] using far6⟩ ?_
  rintro g ⟨q7, k⟩ wk frk ⟨hfuel2, nk, far7⟩
  dsimp only at hfuel2 far7
  have hEk := nk.blk hE
  refine Exists.intro Ap (Exists.intro y.code.maps.length (Exists.intro cp (And.intro (cellB hEk rfl) ?_)))
  refine if_p (fun hltk => ?_) (fun hgek => ?_)
  · replace hltk : (k : Int) < (y.code.maps.length : Int) := hltk
    have hk : k < y.code.maps.length := by omega
    obtain ⟨g, rfl⟩ : ∃ g', g = g' + 1 := ⟨g - 1, by omega⟩
    refine if_p (fun h6 => ?_) (fun h6 => ?_)
    · replace h6 : q7 < 5000 := h6
      obtain ⟨_, _, he, _, gz⟩ := (LRep.mod mpOk (by decide) lq5 (nk.mod.mono fun _ _ e => False.elim e)).get mpOk (by decide)
      cases he
      obtain ⟨a2, cs2, ea2, hz, hc2⟩ := gz k hk
      have hznext : csum wMp (y.code.maps.take (k + 1)) = csum wMp (y.code.maps.take k) + wMp y.code.maps[k] := by
        rw [List.take_succ_eq_append_getElem hk, csum_snoc]
      generalize y.code.maps[k] = z at hz hznext
      obtain ⟨_, _, rfl, lv, lu⟩ := hz
      obtain ⟨D, d, rfl, bd, _⟩ := lv.get tyOk (by decide)
      obtain ⟨F', e', rfl, be, _⟩ := lu.get tyOk (by decide)
      refine draw_ (w := wk) ok (.q 0 (.q 1 (.q 2 (.q 3 (.q 4 (.q 5 (.q 6 (.q 7 (.q 8 (.q 9 (.q 10 (.q 11 (.q 12 (.q 13 (.q 14 (.q 15 (.q 16 (.q 17 (.q 18 .done))))))))))))))))))) [18] (New wk) (by kernel_rfl) (by kernel_rfl) (by kernel_rfl) (by kernel_rfl) (by kernel_rfl) (New.drew _) ?_
      refine Exists.intro Ap (Exists.intro y.code.maps.length (Exists.intro cp (And.intro (fun w'' hw => cellB (hw.blk hEk) rfl) ?_)))
      refine And.intro (by omega) (And.intro hltk ?_)
      refine some_at ea2 ?_
      refine Exists.intro D (Exists.intro z.locals.length (Exists.intro d (And.intro (fun w'' hw => by rw [Int.toNat_natCast]; exact hw.cell (hc2 1 _ rfl)) ?_)))
      refine Exists.intro Ap (Exists.intro y.code.maps.length (Exists.intro cp (And.intro (fun w'' hw => cellB (hw.blk hEk) rfl) ?_)))
      refine And.intro (by omega) (And.intro hltk ?_)
      refine some_at ea2 ?_
      refine Exists.intro F' (Exists.intro z.stack.length (Exists.intro e' (And.intro (fun w'' hw => by rw [Int.toNat_natCast]; exact hw.cell (hc2 2 _ rfl)) ?_)))
      have far' := far7.add h6 (k := wMp z) (by unfold wMp; omega)
      have hf1 := far7.1
      refine ⟨g, (q7 + (wMp z : Int), k + 1), by omega, ⟨rfl, ?_, rfl, rfl, incN hk bq, trivial⟩, by dsimp only; omega, nk.trans (New.drew _), ?_⟩
      · show zi (IntKind.i64.wrap (q7 + IntKind.i64.wrap (IntKind.i64.wrap (1 + (z.locals.length : Int)) + (z.stack.length : Int)))) = _
        unfold wMp
        rw [wrap_i64 (n := 1 + (z.locals.length : Int)) (by omega) (by omega), wrap_i64 (n := 1 + (z.locals.length : Int) + (z.stack.length : Int)) (by omega) (by omega), wrap_i64 (by omega) (by omega)]
        rfl
      · dsimp only
        rw [hznext, ← Nat.add_assoc]
        exact far'
    · replace h6 : ¬ q7 < 5000 := h6
      exact hK3 q7 _ _ ⟨rfl, rfl, rfl, trivial⟩ ⟨n5.trans nk, far7.over (by omega) _⟩
  · replace hgek : ¬ (k : Int) < (y.code.maps.length : Int) := hgek
    have ek : y.code.maps.take k = y.code.maps := List.take_of_length_le (by omega)
    rw [ek] at far7
    refine hK3 q7 _ _ ⟨rfl, rfl, rfl, trivial⟩ ⟨n5.trans nk, ?_⟩
    rw [hnext]
    have : N + csum wMth (c.methods.take i) + wMth y = N + csum wMth (c.methods.take i) + (y.code.bytes.length + y.code.hands.length) + csum wMp y.code.maps := by unfold wMth; omega
    rw [this]
    exact far7

end Go.Proofs.YtdcaafldnbcdkaaDoor.Class

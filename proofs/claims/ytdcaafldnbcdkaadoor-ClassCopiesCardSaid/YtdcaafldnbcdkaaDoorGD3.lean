/- The texts PWrite, KRep, KWrite1, KRead1, KWrite2, KRead2, KRead3, KRead4, KWrite3, KRead5, KRead6 behind one another, merged by mrg.py; each says in its own place what it proves. -/
import Derived.Test.YtdcaafldnbcdkaaDoorGD2

/-! ### PWrite -/
namespace Go.Proofs.YtdcaafldnbcdkaaDoor.Pool
open Go Go.Proofs.YtdcaafldnbcdkaaDoor Go.Proofs.YtdcaafldnbcdkaaDoor.Eng Go.Proofs Go.Proofs.YtdcaafldnbcdkaaDoor.Word Go.Proofs.YtdcaafldnbcdkaaDoor.Fmt
set_option maxRecDepth 10000

/-- What is written of an entry. -/
inductive Parts (x : Ent) : Prop
  | utf (t : x.tag = 1) (h : Word.fits (2 : Nat) (x.text.length : Int) false = true) (e : entF.enc x = enc 1 x.tag ++ (enc 2 (x.text.length : Int) ++ x.text))
  | int (t : x.tag = 3) (h : Word.fits (4 : Nat) x.n true = true) (e : entF.enc x = enc 1 x.tag ++ enc 4 x.n)
  | long (t : x.tag = 5) (h : Word.fits (8 : Nat) x.n true = true) (e : entF.enc x = enc 1 x.tag ++ enc 8 x.n)
  | cls (t : x.tag = 7) (h : Word.fits (2 : Nat) x.a false = true) (e : entF.enc x = enc 1 x.tag ++ enc 2 x.a)
  | two (t : ¬ x.tag = 1 ∧ ¬ x.tag = 3 ∧ ¬ x.tag = 5 ∧ ¬ x.tag = 7) (h : Word.fits (2 : Nat) x.a false = true) (k : Word.fits (2 : Nat) x.b false = true) (e : entF.enc x = enc 1 x.tag ++ (enc 2 x.a ++ enc 2 x.b))
theorem ent_parts {x : Ent} (h : entF.ok x) : Word.fits (1 : Nat) x.tag false = true ∧ Parts x := by
  obtain ⟨_, ⟨h1, _⟩, h2⟩ := h
  refine ⟨h1, ?_⟩
  simp only at h2
  have he : entF.enc x = enc 1 x.tag ++ (bodyF x.tag).enc x := rfl
  unfold bodyF at h2 he
  split at h2
  · rename_i ht
    rw [if_pos ht] at he
    exact .utf ht h2.2.1 he
  rename_i n1
  rw [if_neg n1] at he
  split at h2
  · rename_i ht
    rw [if_pos ht] at he
    exact .int ht h2.2.1 he
  rename_i n3
  rw [if_neg n3] at he
  split at h2
  · rename_i ht
    rw [if_pos ht] at he
    exact .long ht h2.2.1 he
  rename_i n5
  rw [if_neg n5] at he
  split at h2
  · rename_i ht
    rw [if_pos ht] at he
    exact .two ⟨n1, n3, n5, by omega⟩ h2.2.1.1 h2.2.2.1 he
  rename_i n9
  rw [if_neg n9] at he
  split at h2
  · rename_i ht
    rw [if_pos ht] at he
    exact .cls ht h2.2.1 he
  · exact h2.elim
theorem fits2_lt {n : Nat} (h : Word.fits (2 : Nat) (n : Int) false = true) : n < 65536 := by
  simp [Word.fits] at h
  omega
theorem ent_len {x : Ent} (h : entF.ok x) : (entF.enc x).length ≤ 65600 := by
  obtain ⟨_, p⟩ := ent_parts h
  cases p with
  | utf t h e => rw [e]; have := fits2_lt h; simp only [List.length_append, enc_length]; omega
  | int t h e => rw [e]; simp only [List.length_append, enc_length]; omega
  | long t h e => rw [e]; simp only [List.length_append, enc_length]; omega
  | cls t h e => rw [e]; simp only [List.length_append, enc_length]; omega
  | two t h k e => rw [e]; simp only [List.length_append, enc_length]; omega
theorem ents_take {l : List Ent} {i : Nat} (hi : i < l.length) : ents (l.take (i + 1)) = ents (l.take i) ++ if (at_ l i).tag = 0 then [] else entF.enc (at_ l i) := by
  rw [List.take_succ_eq_append_getElem hi, ents_app, at_lt hi]
  congr 1
  unfold ents
  by_cases h : l[i].tag = 0
  · rw [List.filter_cons_of_neg (by unfold isIt; rw [decide_eq_true h]; decide), if_pos h]
    rfl
  · rw [List.filter_cons_of_pos (by unfold isIt; rw [decide_eq_false h]; rfl), if_neg h]
    simp
theorem right_ent {l : List Ent} (h : OkPool l) (hn : ∀ x ∈ l, EntOk x) {i : Nat} (hi : i < l.length) (ht : (at_ l i).tag ≠ 0) : entF.ok (at_ l i) := by
  obtain ⟨_, hf⟩ := tag_right h.1 hi ht
  refine ok_entF ?_ ⟨l, i, fits_demand hf, h.2⟩ (by rw [at_lt hi]; exact (hn _ (List.getElem_mem hi)).n)
  unfold Pool.fits at hf
  rw [Bool.and_eq_true] at hf
  exact of_decide_eq_true hf.1
theorem ents_take_len {l : List Ent} (h : OkPool l) (hn : ∀ x ∈ l, EntOk x) : ∀ i, i ≤ l.length → (ents (l.take i)).length ≤ 65600 * i
  | 0, _ => by simp [ents]
  | i + 1, hi => by
    rw [ents_take (by omega), List.length_append]
    have h1 := ents_take_len h hn i (by omega)
    have h2 : (if (at_ l i).tag = 0 then [] else entF.enc (at_ l i)).length ≤ 65600 := by
      split
      · simp
      · rename_i ht
        exact ent_len (right_ent h hn (by omega) ht)
    omega
theorem ents_all {l : List Ent} (h : Okp l) : ents (l.drop 1) = ents l := by
  have h0 := h.pos
  have h1 := h.head
  cases l with
  | nil => simp at h0
  | cons x r =>
    have : x = e0 := h1
    subst this
    show ents r = ents (e0 :: r)
    unfold ents
    rw [List.filter_cons_of_neg (by decide)]
theorem Pl.mod {S : Nat → Prop} {w w' : World} {A : Option Addr} {n : Nat} {l : List Ent} (h : Pl w A n l) (k : Mod S w w') (ha : ∀ a, A = some a → l ≠ [] → ¬ S a.block) : Pl w' A n l := by
  refine ⟨h.len, ?_, h.oks, h.top⟩
  intro i cs hi
  obtain ⟨h1, a, h2, h3⟩ := h.row i cs hi
  refine ⟨h1, a, h2, fun j u hu => ?_⟩
  have hne : l ≠ [] := by
    rintro rfl
    simp at hi
  exact k.cell (h3 j u hu) (by rw [add_block, add_block]; exact ha a h2 hne)
theorem Write_ok (base g : Nat) (v : Value) (bs : List UInt8) (A : Option Addr) (n q : Nat) (l : List Ent) (w : World) (h : Wr w base g v bs) (hl : Pl w A n l) (hd : ∀ a, A = some a → l ≠ [] → ¬ WS g v a.block) (hm : bs.length ≤ 500000000) (hb : base ≤ w.heap.size) :
    Calls Tryd.prog 37 #[.pointer (some ⟨g, 0, none⟩), .slice A n q] w fun e w' => e = .returned (.int .i64 (chk l)) ∧ ∃ v', Wk w base g v w' v' (if okB l = true then bs ++ poolF.enc l else bs) := by
  refine enter ok Tryd.func37 rfl rfl rfl ?_
  refine call_ (Check_ok A n q l w hl) ?_
  rintro e w0 ⟨rfl, n0⟩
  refine ⟨_, rfl, ?_⟩
  have hr0 := (Wk.refl h).new n0
  rcases chk_cases l with ⟨hc, ho⟩ | ⟨hc, ho⟩
  · rw [hc, ho]
    exact ⟨rfl, v, hr0⟩
  rw [hc, ho, if_pos rfl]
  have hO := (okB_iff l).1 ho
  have hlen := hl.len
  have htop := hl.top
  have h1024 := hO.2
  refine call_ (WU1 base g v bs 2 n w0 hr0.wr Pool.w2 (fits2 (by omega) (by omega)).1 (by omega) (Nat.le_trans hb n0.size)) ?_
  rintro e w1 ⟨rfl, v1, k1⟩
  refine ⟨_, rfl, ?_⟩
  have hr1 := hr0.then k1
  clear k1
  refine den_loop (σ := Nat) (fun i => [(0, .pointer (some ⟨g, 0, none⟩)), (6, .int .i64 0), (19, .slice A n q), (20, .int .i64 n), (21, .int .i64 i)])
    (fun m i wl => i ≤ n ∧ m = n - i ∧ ∃ v', Wk w base g v wl v' (bs ++ (enc 2 (n : Int) ++ ents (l.take i)))) n 0 ⟨rfl, rfl, rfl, rfl, rfl, trivial⟩ ⟨Nat.zero_le _, rfl, v1, by simpa [ents] using hr1⟩ ?_
  rintro m i wl fr0 ⟨hi, rfl, vl, kl⟩
  refine if_p (fun hlt => ?_) (fun hge => ?_)
  · replace hlt : (i : Int) < n := hlt
    have hil : i < l.length := by omega
    have hplx := hl.mod kl.mod hd
    obtain ⟨a, rfl, hxo, hxc⟩ := hplx.at_ (i := i) (by omega)
    have hbl := ents_take_len hO hl.oks i (by omega)
    have hbb : (bs ++ (enc 2 (n : Int) ++ ents (l.take i))).length ≤ 600000000 := by
      simp only [List.length_append, enc_length]
      omega
    have hbase : ∀ {w' v' bs'}, Wk w base g v w' v' bs' → base ≤ w'.heap.size := fun k => Nat.le_trans hb k.mod.size
    refine And.intro (by omega) (And.intro (by omega) ?_)
    refine loadN_row (vs := entC (at_ l i)) (fun j u hu => by rw [Int.toNat_natCast]; exact hxc j u hu) rfl ?_
    refine And.intro rfl ?_
    refine storeNew (vs := entC (at_ l i)) (arr := entZ) rfl (entC_one _) ?_
    intro w5 hb5 n5 s5
    have k5 := kl.new n5
    have goal : ∀ w' v', Wk w base g v w' v' (bs ++ (enc 2 (n : Int) ++ ents (l.take i)) ++ if (at_ l i).tag = 0 then [] else entF.enc (at_ l i)) → (i + 1 ≤ n ∧ n - (i + 1) = n - (i + 1) ∧ ∃ v', Wk w base g v w' v' (bs ++ (enc 2 (n : Int) ++ ents (l.take (i + 1))))) := fun w' v' k => ⟨by omega, rfl, v', by
      rw [ents_take hil]
      simpa using k⟩
    have inc : Value.int .i64 (IntKind.i64.wrap ((i : Int) + 1)) = .int .i64 ((i + 1 : Nat) : Int) := by
      rw [wrap_i64 (by omega) (by omega)]
      rfl
    refine Exists.intro (at_ l i).tag (And.intro (cellB hb5 rfl) ?_)
    refine if_p (fun h0 => ?_) (fun h0 => ?_)
    · replace h0 : (at_ l i).tag = 0 := h0
      refine ⟨n - (i + 1), i + 1, by omega, ⟨rfl, rfl, rfl, rfl, inc, trivial⟩, goal w5 vl ?_⟩
      rw [if_pos h0, List.append_nil]
      exact k5
    replace h0 : ¬ (at_ l i).tag = 0 := h0
    rw [if_neg h0] at goal
    have hok := right_ent hO hl.oks hil h0
    obtain ⟨hf1, hparts⟩ := ent_parts hok
    refine Exists.intro (at_ l i).tag (And.intro (cellB hb5 rfl) ?_)
    refine call_ (WU1 base g vl _ 1 (at_ l i).tag w5 k5.wr Pool.w1 hf1 (by omega) (hbase k5)) ?_
    rintro e w8 ⟨rfl, v8, j8⟩
    refine ⟨_, rfl, ?_⟩
    have k8 := k5.then j8
    have hne5 : ¬ WS g vl wl.heap.size := by
      rintro (e | e)
      · have := kl.wr.lt; omega
      · have := (kl.wr.vlt e.symm).2; omega
    have hb8 := j8.mod.blk hb5 hne5
    have hne8 : ¬ WS g v8 wl.heap.size := by
      rintro (e | e)
      · have := kl.wr.lt; omega
      · rcases j8.st _ e.symm with h' | h'
        · exact hne5 (.inr h'.symm)
        · have := n5.size; omega
    refine Exists.intro (at_ l i).tag (And.intro (cellB hb8 rfl) ?_)
    have close : ∀ w' v' ys, Wk w base g v w' v' ((bs ++ (enc 2 (n : Int) ++ ents (l.take i))) ++ enc 1 (at_ l i).tag ++ ys) → entF.enc (at_ l i) = enc 1 (at_ l i).tag ++ ys → Wk w base g v w' v' (bs ++ (enc 2 (n : Int) ++ ents (l.take i)) ++ entF.enc (at_ l i)) := fun w' v' ys k e => by
      rw [e, ← List.append_assoc]
      exact k
    have hl1 : ((bs ++ (enc 2 (n : Int) ++ ents (l.take i))) ++ enc 1 (at_ l i).tag).length ≤ 600000001 := by rw [List.length_append, enc_length]; omega
    refine if_p (fun h1 => ?_) (fun h1 => ?_)
    · replace h1 : (at_ l i).tag = 1 := h1
      cases hparts with
      | utf _ hf he =>
        have htl := fits2_lt hf
        refine Exists.intro (⟨(at_ l i).text.toArray⟩ : ByteArray) (And.intro (cellB hb8 rfl) ?_)
        have hsz : ((ByteArray.mk (at_ l i).text.toArray).size : Int) = (((at_ l i).text.length : Nat) : Int) := by rw [size_str]
        refine call_ (WU1 base g v8 _ 2 ((ByteArray.mk (at_ l i).text.toArray).size : Int) w8 k8.wr Pool.w2 (by rw [hsz]; exact hf) (by omega) (hbase k8)) ?_
        rintro e w11 ⟨rfl, v11, j11⟩
        rw [hsz] at j11
        refine ⟨_, rfl, ?_⟩
        have k11 := k8.then j11
        have hb11 := j11.mod.blk hb8 hne8
        refine Exists.intro (⟨(at_ l i).text.toArray⟩ : ByteArray) (And.intro (cellB hb11 rfl) ?_)
        refine str_bytes_ ok rfl rfl rfl rfl rfl rfl (l := (at_ l i).text) rfl (by omega) ?_
        intro c13 w13 hc13 hcm13 row13 n13 s13
        have k13 := k11.new n13
        refine call_ (WB1 base g v11 _ (some ⟨w11.heap.size, 0, none⟩) (at_ l i).text.length c13 (at_ l i).text w13 k13.wr row13 rfl (by simp only [List.length_append, enc_length] at hl1 ⊢; omega) (hbase k13)) ?_
        rintro e w14 ⟨rfl, v14, j14⟩
        refine ⟨_, rfl, ?_⟩
        have k14 := k13.then j14
        refine ⟨n - (i + 1), i + 1, by omega, ⟨rfl, rfl, rfl, rfl, inc, trivial⟩, goal w14 v14 (close _ _ _ ?_ he)⟩
        simpa using k14
      | int t => omega
      | long t => omega
      | cls t => omega
      | two t => exact absurd h1 t.1
    replace h1 : ¬ (at_ l i).tag = 1 := h1
    refine if_p (fun h3 => ?_) (fun h3 => ?_)
    · replace h3 : (at_ l i).tag = 3 := h3
      cases hparts with
      | int _ hf he =>
        refine Exists.intro (at_ l i).n (And.intro (cellB hb8 rfl) ?_)
        refine call_ (WS1 base g v8 _ 4 (at_ l i).n w8 k8.wr Pool.w4 hf (by omega) (hbase k8)) ?_
        rintro e w11 ⟨rfl, v11, j11⟩
        refine ⟨_, rfl, ?_⟩
        exact ⟨n - (i + 1), i + 1, by omega, ⟨rfl, rfl, rfl, rfl, inc, trivial⟩, goal w11 v11 (close _ _ _ (k8.then j11) he)⟩
      | utf t => omega
      | long t => omega
      | cls t => omega
      | two t => exact absurd h3 t.2.1
    replace h3 : ¬ (at_ l i).tag = 3 := h3
    refine if_p (fun h5 => ?_) (fun h5 => ?_)
    · replace h5 : (at_ l i).tag = 5 := h5
      cases hparts with
      | long _ hf he =>
        refine Exists.intro (at_ l i).n (And.intro (cellB hb8 rfl) ?_)
        refine call_ (WS1 base g v8 _ 8 (at_ l i).n w8 k8.wr Pool.w8 hf (by omega) (hbase k8)) ?_
        rintro e w11 ⟨rfl, v11, j11⟩
        refine ⟨_, rfl, ?_⟩
        exact ⟨n - (i + 1), i + 1, by omega, ⟨rfl, rfl, rfl, rfl, inc, trivial⟩, goal w11 v11 (close _ _ _ (k8.then j11) he)⟩
      | utf t => omega
      | int t => omega
      | cls t => omega
      | two t => exact absurd h5 t.2.2.1
    replace h5 : ¬ (at_ l i).tag = 5 := h5
    refine if_p (fun h7 => ?_) (fun h7 => ?_)
    · replace h7 : (at_ l i).tag = 7 := h7
      cases hparts with
      | cls _ hf he =>
        refine Exists.intro (at_ l i).a (And.intro (cellB hb8 rfl) ?_)
        refine call_ (WU1 base g v8 _ 2 (at_ l i).a w8 k8.wr Pool.w2 hf (by omega) (hbase k8)) ?_
        rintro e w11 ⟨rfl, v11, j11⟩
        refine ⟨_, rfl, ?_⟩
        exact ⟨n - (i + 1), i + 1, by omega, ⟨rfl, rfl, rfl, rfl, inc, trivial⟩, goal w11 v11 (close _ _ _ (k8.then j11) he)⟩
      | utf t => omega
      | int t => omega
      | long t => omega
      | two t => exact absurd h7 t.2.2.2
    replace h7 : ¬ (at_ l i).tag = 7 := h7
    cases hparts with
    | two _ hf hg he =>
      refine Exists.intro (at_ l i).a (And.intro (cellB hb8 rfl) ?_)
      refine Exists.intro (at_ l i).b (And.intro (cellB hb8 rfl) ?_)
      refine call_ (WU2 base g v8 _ 2 (at_ l i).a (at_ l i).b w8 k8.wr Pool.w2 hf hg (by omega) (hbase k8)) ?_
      rintro e w11 ⟨rfl, v11, j11⟩
      refine ⟨_, rfl, ?_⟩
      exact ⟨n - (i + 1), i + 1, by omega, ⟨rfl, rfl, rfl, rfl, inc, trivial⟩, goal w11 v11 (close _ _ _ (k8.then j11) he)⟩
    | utf t => omega
    | int t => omega
    | long t => omega
    | cls t => omega
  · replace hge : ¬ (i : Int) < n := hge
    refine ⟨rfl, vl, ?_⟩
    have : i = l.length := by omega
    subst this
    rw [List.take_length, hlen] at kl
    show Wk w base g v wl vl (bs ++ (enc 2 (l.length : Int) ++ ents (l.drop 1)))
    rw [ents_all hO.1]
    exact kl
end Go.Proofs.YtdcaafldnbcdkaaDoor.Pool

/-! ### KRep -/
namespace Go.Proofs.YtdcaafldnbcdkaaDoor.Class
open Go Go.Proofs.YtdcaafldnbcdkaaDoor Go.Proofs.YtdcaafldnbcdkaaDoor.Eng Go.Proofs Go.Proofs.YtdcaafldnbcdkaaDoor.Word Go.Proofs.YtdcaafldnbcdkaaDoor.Fmt
open Go.Proofs.YtdcaafldnbcdkaaDoor.Pool (Ent at_ poolF strV entC EntOk Pl)
set_option maxRecDepth 10000

/-! ### Members in memory -/
/-- How a value lies in memory: its cells, and rows behind them that are none of those blocks. -/
abbrev RepT (α : Type) := World → (Nat → Prop) → List Value → α → Prop
structure RepOk {α : Type} (R : RepT α) (sz : Nat) : Prop where
  mod : ∀ {w w' : World} {S : Nat → Prop} {cs : List Value} {x : α}, R w S cs x → Mod S w w' → R w' S cs x
  weak : ∀ {w : World} {S S' : Nat → Prop} {cs : List Value} {x : α}, R w S cs x → (∀ b, b < w.heap.size → S' b → S b) → R w S' cs x
  len : ∀ {w : World} {S : Nat → Prop} {cs : List Value} {x : α}, R w S cs x → cs.length = sz
  one : ∀ {w : World} {S : Nat → Prop} {cs : List Value} {x : α}, R w S cs x → ∀ u ∈ cs, u.oneCell' = true
abbrev cellsOf {α : Type} (ts : List (List Value × α)) : List Value := (ts.map (·.1)).flatten
/-- A list's row. -/
structure LRow {α : Type} (R : RepT α) (w : World) (S : Nat → Prop) (A : Option Addr) (ts : List (List Value × α)) : Prop where
  row : Row w A (cellsOf ts)
  off : ∀ a, A = some a → ts ≠ [] → a.block < w.heap.size ∧ ¬ S a.block
  mem : ∀ t ∈ ts, R w S t.1 t.2
/-- A list in memory. -/
def LRep {α : Type} (R : RepT α) (w : World) (S : Nat → Prop) (v : Value) (xs : List α) : Prop :=
  ∃ A c ts, v = .slice A xs.length c ∧ ts.map (·.2) = xs ∧ xs.length ≤ c ∧ c ≤ 9223372036854775807 ∧ xs.length ≤ 140737488355328 ∧ LRow R w S A ts
section
variable {α : Type} {R : RepT α} {sz : Nat} {w w' : World} {S S' : Nat → Prop} {v : Value} {xs : List α} {A : Option Addr} {ts : List (List Value × α)}
theorem LRow.mod (hR : RepOk R sz) (hsz : 0 < sz) (h : LRow R w S A ts) (m : Mod S w w') : LRow R w' S A ts := by
  refine ⟨?_, fun a ha hn => ⟨Nat.lt_of_lt_of_le (h.off a ha hn).1 m.size, (h.off a ha hn).2⟩, fun t ht => hR.mod (h.mem t ht) m⟩
  by_cases hn : ts = []
  · subst hn
    exact Row.nil _ _
  · exact h.row.mod m fun a ha => (h.off a ha hn).2
theorem LRow.weak (hR : RepOk R sz) (h : LRow R w S A ts) (hs : ∀ b, b < w.heap.size → S' b → S b) : LRow R w S' A ts :=
  ⟨h.row, fun a ha hn => ⟨(h.off a ha hn).1, fun e => (h.off a ha hn).2 (hs _ (h.off a ha hn).1 e)⟩, fun t ht => hR.weak (h.mem t ht) hs⟩
theorem LRep.mod (hR : RepOk R sz) (hsz : 0 < sz) (h : LRep R w S v xs) (m : Mod S w w') : LRep R w' S v xs := by
  obtain ⟨A, c, ts, h1, h2, h3, h4, h5, h6⟩ := h
  exact ⟨A, c, ts, h1, h2, h3, h4, h5, h6.mod hR hsz m⟩
theorem LRep.weak (hR : RepOk R sz) (h : LRep R w S v xs) (hs : ∀ b, b < w.heap.size → S' b → S b) : LRep R w S' v xs := by
  obtain ⟨A, c, ts, h1, h2, h3, h4, h5, h6⟩ := h
  exact ⟨A, c, ts, h1, h2, h3, h4, h5, h6.weak hR hs⟩
theorem LRep.one (h : LRep R w S v xs) : v.oneCell' = true := by
  obtain ⟨A, c, ts, h1, _⟩ := h
  rw [h1]
  rfl
theorem LRep.nil (w : World) (S : Nat → Prop) (A : Option Addr) (hA : True) : LRep R w S (.slice A 0 0) [] := ⟨A, 0, [], rfl, rfl, Nat.le_refl _, by omega, by simp, Row.nil _ _, fun _ _ h => absurd rfl h, fun _ h => (by cases h)⟩
theorem cells_len (hR : RepOk R sz) (h : ∀ t ∈ ts, R w S t.1 t.2) : (cellsOf ts).length = ts.length * sz := by
  induction ts with
  | nil => simp
  | cons t l ih =>
    have := ih fun y hy => h y (List.mem_cons_of_mem _ hy)
    simp only [cellsOf, List.map_cons, List.flatten_cons, List.length_append, List.length_cons] at this ⊢
    rw [this, hR.len (h t List.mem_cons_self), Nat.succ_mul]
    omega
/-- A member's cells. -/
theorem cells_at (hR : RepOk R sz) : ∀ {ts : List (List Value × α)}, (∀ t ∈ ts, R w S t.1 t.2) → ∀ (i : Nat) (hi : i < ts.length) (k : Nat) (u : Value), ts[i].1[k]? = some u → (cellsOf ts)[i * sz + k]? = some u
  | [], _, i, hi, _, _, _ => by simp at hi
  | t :: l, h, 0, _, k, u, hu => by
    have hk : k < t.1.length := (List.getElem?_eq_some_iff.1 hu).1
    simp only [cellsOf, List.map_cons, List.flatten_cons, Nat.zero_mul, Nat.zero_add]
    rw [List.getElem?_append_left hk]
    exact hu
  | t :: l, h, i + 1, hi, k, u, hu => by
    have hl := hR.len (h t List.mem_cons_self)
    have := cells_at hR (ts := l) (fun y hy => h y (List.mem_cons_of_mem _ hy)) i (by simpa using hi) k u (by simpa using hu)
    simp only [cellsOf, List.map_cons, List.flatten_cons]
    rw [List.getElem?_append_right (by rw [hl, Nat.succ_mul]; omega), hl, show (i + 1) * sz + k - sz = i * sz + k by rw [Nat.succ_mul]; omega]
    exact this
theorem LRow.at_ (hR : RepOk R sz) (hsz : 0 < sz) (h : LRow R w S A ts) {i : Nat} (hi : i < ts.length) : ∃ a, A = some a ∧ ∀ k u, ts[i].1[k]? = some u → w.cell? ((a.add (i * sz)).add k) = some u := by
  have key : ∀ k u, ts[i].1[k]? = some u → ∃ a, A = some a ∧ w.cell? (a.add (i * sz + k)) = some u := fun k u hu => h.row (i * sz + k) u (cells_at hR h.mem i hi k u hu)
  have hl := hR.len (h.mem _ (List.getElem_mem hi))
  obtain ⟨a, ha, _⟩ := key 0 ts[i].1[0] (by simp [List.getElem?_eq_getElem, hl, hsz])
  refine ⟨a, ha, fun k u hu => ?_⟩
  obtain ⟨a', ha', hc⟩ := key k u hu
  rw [ha] at ha'
  cases ha'
  rw [add_add_]
  exact hc
end
theorem cellsOf_snoc {α : Type} (ts : List (List Value × α)) (t : List Value × α) : cellsOf (ts ++ [t]) = cellsOf ts ++ t.1 := by simp [cellsOf]
/-- A member more: those that are there stay. -/
theorem mem_step {α : Type} {R : RepT α} {sz : Nat} (hR : RepOk R sz) {ts : List (List Value × α)} {w wl w5 w7 : World} {o o' : Option Nat} {cs : List Value} {x : α} {h g : Nat} (hts : ∀ t ∈ ts, R wl (fun b => b < w.heap.size ∨ some b = o) t.1 t.2)
    (hx : R w5 (fun b => b < wl.heap.size) cs x) (m5 : Mod (Pool.RS h g) wl w5) (k57 : Mod (fun b => some b = o) w5 w7) (hh : h < w.heap.size) (hg : g < w.heap.size) (hz : w.heap.size ≤ wl.heap.size) (ho : ∀ b, some b = o → w.heap.size ≤ b ∧ b < wl.heap.size)
    (st : ∀ b, some b = o' → some b = o ∨ w5.heap.size ≤ b) : ∀ t ∈ ts ++ [(cs, x)], R w7 (fun b => b < w.heap.size ∨ some b = o') t.1 t.2 := by
  intro t ht
  have m5z := m5.size
  rcases List.mem_append.1 ht with ht | ht
  · have h1 := hR.weak (S' := fun b => (b < w.heap.size ∨ some b = o) ∨ wl.heap.size ≤ b) (hts t ht) fun b hb e => e.resolve_right (by omega)
    have h2 := hR.mod h1 (m5.mono fun b hb e => .inl (.inl (by rcases e with e | e <;> omega)))
    have h3 := hR.mod h2 (k57.mono fun b hb e => .inl (.inr e))
    refine hR.weak h3 fun b hb e => ?_
    rcases e with e | e
    · exact .inl (.inl e)
    · rcases st b e with e | e
      · exact .inl (.inr e)
      · exact .inr (by omega)
  · rw [List.mem_singleton.1 ht]
    have h1 := hR.weak (S' := fun b => (b < w.heap.size ∨ some b = o) ∨ w5.heap.size ≤ b) hx fun b hb e => by
      rcases e with (e | e) | e
      · omega
      · exact (ho b e).2
      · omega
    have h3 := hR.mod h1 (k57.mono fun b hb e => .inl (.inr e))
    refine hR.weak h3 fun b hb e => ?_
    rcases e with e | e
    · exact .inl (.inl e)
    · rcases st b e with e | e
      · exact .inl (.inr e)
      · exact .inr e
theorem LRep.get {α : Type} {R : RepT α} {sz : Nat} {w : World} {S : Nat → Prop} {v : Value} {xs : List α} (hR : RepOk R sz) (hsz : 0 < sz) (h : LRep R w S v xs) : ∃ A c, v = .slice A xs.length c ∧ xs.length ≤ 140737488355328 ∧ ∀ (i : Nat) (hi : i < xs.length), ∃ a cs, A = some a ∧ R w S cs xs[i] ∧ ∀ k u, cs[k]? = some u → w.cell? ((a.add (i * sz)).add k) = some u := by
  obtain ⟨A, c, ts, h1, h2, h3, h4, h5, h6⟩ := h
  refine ⟨A, c, h1, h5, fun i hi => ?_⟩
  have hi' : i < ts.length := by rw [← h2] at hi; simpa using hi
  obtain ⟨a, ha, hc⟩ := h6.at_ hR hsz hi'
  have e : xs[i] = ts[i].2 := by subst h2; simp
  exact ⟨a, ts[i].1, ha, by rw [e]; exact h6.mem _ (List.getElem_mem hi'), hc⟩
abbrev zi (n : Int) : Value := .int .i64 n
def tyR : RepT Ty := fun _ _ cs x => cs = [zi x.kind, strV x.name]
theorem tyOk : RepOk tyR 2 := ⟨fun h _ => h, fun h _ => h, fun h => by rw [h]; rfl, fun h u hu => by
  rw [h] at hu
  simp only [entC, List.mem_cons, List.not_mem_nil, or_false] at hu
  rcases hu with hu | hu <;> (rw [hu]; rfl)⟩
def hndR : RepT Hnd := fun _ _ cs x => cs = [zi x.from_, zi x.to, zi x.at_, zi x.cls]
theorem hndOk : RepOk hndR 4 := ⟨fun h _ => h, fun h _ => h, fun h => by rw [h]; rfl, fun h u hu => by
  rw [h] at hu
  simp only [entC, List.mem_cons, List.not_mem_nil, or_false] at hu
  rcases hu with hu | hu | hu | hu <;> (rw [hu]; rfl)⟩
def entR : RepT Ent := fun _ _ cs x => cs = entC x
theorem entOk : RepOk entR 5 := ⟨fun h _ => h, fun h _ => h, fun h => by rw [h]; rfl, fun h u hu => by
  rw [h] at hu
  simp only [entC, List.mem_cons, List.not_mem_nil, or_false] at hu
  rcases hu with hu | hu | hu | hu | hu <;> (rw [hu]; rfl)⟩
def fldR : RepT Fld := fun _ _ cs x => cs = [zi x.acc, strV x.name, strV x.typ]
theorem fldOk : RepOk fldR 3 := ⟨fun h _ => h, fun h _ => h, fun h => by rw [h]; rfl, fun h u hu => by
  rw [h] at hu
  simp only [entC, List.mem_cons, List.not_mem_nil, or_false] at hu
  rcases hu with hu | hu | hu <;> (rw [hu]; rfl)⟩
def u8R : RepT UInt8 := fun _ _ cs x => cs = [.int .u8 (x.toNat : Int)]
theorem u8Ok : RepOk u8R 1 := ⟨fun h _ => h, fun h _ => h, fun h => by rw [h]; rfl, fun h u hu => by
  rw [h] at hu
  simp only [entC, List.mem_cons, List.not_mem_nil, or_false] at hu
  (rw [hu]; rfl)⟩
def mpR : RepT Mp := fun w S cs x => ∃ a b, cs = [zi x.at_, a, b] ∧ LRep tyR w S a x.locals ∧ LRep tyR w S b x.stack
theorem mpOk : RepOk mpR 3 := ⟨fun ⟨a, b, h, h0, h1⟩ m => ⟨a, b, h, h0.mod tyOk (by decide) m, h1.mod tyOk (by decide) m⟩, fun ⟨a, b, h, h0, h1⟩ m => ⟨a, b, h, h0.weak tyOk m, h1.weak tyOk m⟩, fun ⟨a, b, h, h0, h1⟩ => by rw [h]; rfl, fun ⟨a, b, h, h0, h1⟩ u hu => by
  rw [h] at hu
  simp only [List.mem_cons, List.not_mem_nil, or_false] at hu
  rcases hu with hu | hu | hu <;> first
    | (rw [hu]; rfl)
    | (rw [hu]; exact h0.one)
    | (rw [hu]; exact h1.one)⟩
def codR : RepT Cod := fun w S cs x => ∃ a b c, cs = [zi x.stack, zi x.locals, a, b, c] ∧ LRep u8R w S a x.bytes ∧ LRep hndR w S b x.hands ∧ LRep mpR w S c x.maps
theorem codOk : RepOk codR 5 := ⟨fun ⟨a, b, c, h, h0, h1, h2⟩ m => ⟨a, b, c, h, h0.mod u8Ok (by decide) m, h1.mod hndOk (by decide) m, h2.mod mpOk (by decide) m⟩, fun ⟨a, b, c, h, h0, h1, h2⟩ m => ⟨a, b, c, h, h0.weak u8Ok m, h1.weak hndOk m, h2.weak mpOk m⟩, fun ⟨a, b, c, h, h0, h1, h2⟩ => by rw [h]; rfl, fun ⟨a, b, c, h, h0, h1, h2⟩ u hu => by
  rw [h] at hu
  simp only [List.mem_cons, List.not_mem_nil, or_false] at hu
  rcases hu with hu | hu | hu | hu | hu <;> first
    | (rw [hu]; rfl)
    | (rw [hu]; exact h0.one)
    | (rw [hu]; exact h1.one)
    | (rw [hu]; exact h2.one)⟩
def mthR : RepT Mth := fun w S cs x => ∃ a b c, cs = [zi x.acc, strV x.name, strV x.typ, zi x.code.stack, zi x.code.locals, a, b, c] ∧ LRep u8R w S a x.code.bytes ∧ LRep hndR w S b x.code.hands ∧ LRep mpR w S c x.code.maps
theorem mthOk : RepOk mthR 8 := ⟨fun ⟨a, b, c, h, h0, h1, h2⟩ m => ⟨a, b, c, h, h0.mod u8Ok (by decide) m, h1.mod hndOk (by decide) m, h2.mod mpOk (by decide) m⟩, fun ⟨a, b, c, h, h0, h1, h2⟩ m => ⟨a, b, c, h, h0.weak u8Ok m, h1.weak hndOk m, h2.weak mpOk m⟩, fun ⟨a, b, c, h, h0, h1, h2⟩ => by rw [h]; rfl, fun ⟨a, b, c, h, h0, h1, h2⟩ u hu => by
  rw [h] at hu
  simp only [List.mem_cons, List.not_mem_nil, or_false] at hu
  rcases hu with hu | hu | hu | hu | hu | hu | hu | hu <;> first
    | (rw [hu]; rfl)
    | (rw [hu]; exact h0.one)
    | (rw [hu]; exact h1.one)
    | (rw [hu]; exact h2.one)⟩
def clsR : RepT Cls := fun w S cs x => ∃ a b c, cs = [a, strV x.name, strV x.super, b, c] ∧ LRep entR w S a x.pool ∧ LRep fldR w S b x.fields ∧ LRep mthR w S c x.methods
theorem clsOk : RepOk clsR 5 := ⟨fun ⟨a, b, c, h, h0, h1, h2⟩ m => ⟨a, b, c, h, h0.mod entOk (by decide) m, h1.mod fldOk (by decide) m, h2.mod mthOk (by decide) m⟩, fun ⟨a, b, c, h, h0, h1, h2⟩ m => ⟨a, b, c, h, h0.weak entOk m, h1.weak fldOk m, h2.weak mthOk m⟩, fun ⟨a, b, c, h, h0, h1, h2⟩ => by rw [h]; rfl, fun ⟨a, b, c, h, h0, h1, h2⟩ u hu => by
  rw [h] at hu
  simp only [List.mem_cons, List.not_mem_nil, or_false] at hu
  rcases hu with hu | hu | hu | hu | hu <;> first
    | (rw [hu]; rfl)
    | (rw [hu]; exact h0.one)
    | (rw [hu]; exact h1.one)
    | (rw [hu]; exact h2.one)⟩
/-- Bytes in a row. -/
theorem bytes_cells : ∀ {ts : List (List Value × UInt8)} {w : World} {S : Nat → Prop}, (∀ t ∈ ts, u8R w S t.1 t.2) → cellsOf ts = bvs (ts.map (·.2))
  | [], _, _, _ => rfl
  | t :: l, w, S, h => by
    have h1 : t.1 = [.int .u8 (t.2.toNat : Int)] := h t List.mem_cons_self
    have h2 := bytes_cells (ts := l) fun y hy => h y (List.mem_cons_of_mem _ hy)
    show t.1 ++ cellsOf l = _
    rw [h1, h2]
    rfl
theorem bytes_row {w : World} {S : Nat → Prop} {v : Value} {xs : List UInt8} (h : LRep u8R w S v xs) : ∃ A c, v = .slice A xs.length c ∧ Row w A (bvs xs) ∧ xs.length ≤ c ∧ c ≤ 9223372036854775807 ∧ ∀ a, A = some a → xs ≠ [] → a.block < w.heap.size ∧ ¬ S a.block := by
  obtain ⟨A, c, ts, h1, h2, h3, h4, h5, h6⟩ := h
  refine ⟨A, c, h1, ?_, h3, h4, fun a ha hn => h6.off a ha fun e => hn ?_⟩
  · have := h6.row
    rw [bytes_cells h6.mem, h2] at this
    exact this
  · rw [← h2, e]
    rfl
/-- A pool in a row. -/
theorem ents_cells : ∀ {ts : List (List Value × Ent)} {w : World} {S : Nat → Prop}, (∀ t ∈ ts, entR w S t.1 t.2) → ts.map (·.1) = (ts.map (·.2)).map entC
  | [], _, _, _ => rfl
  | t :: l, w, S, h => by
    have h1 : t.1 = entC t.2 := h t List.mem_cons_self
    have h2 := ents_cells (ts := l) fun y hy => h y (List.mem_cons_of_mem _ hy)
    rw [List.map_cons, h1, h2]
    rfl
theorem pool_row {w : World} {S : Nat → Prop} {v : Value} {l : List Ent} (h : LRep entR w S v l) (ho : ∀ x ∈ l, EntOk x) : ∃ A c, v = .slice A l.length c ∧ Pl w A l.length l ∧ l.length ≤ c ∧ c ≤ 9223372036854775807 ∧ ∀ a, A = some a → l ≠ [] → a.block < w.heap.size ∧ ¬ S a.block := by
  obtain ⟨A, c, ts, h1, h2, h3, h4, h5, h6⟩ := h
  refine ⟨A, c, h1, ⟨rfl, ?_, ho, by omega⟩, h3, h4, fun a ha hn => h6.off a ha fun e => hn ?_⟩
  · rw [← h2, ← ents_cells h6.mem]
    intro i cs hi
    rw [List.getElem?_map, Option.map_eq_some_iff] at hi
    obtain ⟨t, ht, rfl⟩ := hi
    have hl := (List.getElem?_eq_some_iff.1 ht).1
    have ht2 : ts[i] = t := (List.getElem?_eq_some_iff.1 ht).2
    have hm := h6.mem t (by rw [← ht2]; exact List.getElem_mem hl)
    obtain ⟨a, ha, hc⟩ := h6.at_ entOk (by decide) hl
    rw [ht2] at hc
    exact ⟨entOk.len hm, a, ha, hc⟩
  · rw [← h2, e]
    rfl
end Go.Proofs.YtdcaafldnbcdkaaDoor.Class

/-! ### KWrite1 -/
namespace Go.Proofs.YtdcaafldnbcdkaaDoor.Class
open Go Go.Proofs.YtdcaafldnbcdkaaDoor Go.Proofs.YtdcaafldnbcdkaaDoor.Eng Go.Proofs Go.Proofs.YtdcaafldnbcdkaaDoor.Word Go.Proofs.YtdcaafldnbcdkaaDoor.Fmt
open Go.Proofs.YtdcaafldnbcdkaaDoor.Pool (Ent at_ poolF strV entC entV EntOk Pl OkPool both own_low tagAt)
set_option maxRecDepth 10000

/-- A pool in memory, and the table of kinds. -/
structure Po where
  A : Option Addr
  c : Nat
  l : List Ent
abbrev Po.v (p : Po) : Value := .slice p.A p.l.length p.c
def Kt (w : World) : Prop := ∀ k : Int, 0 ≤ k → k < 5 → w.cell? ⟨0, k.toNat, none⟩ = some (zi (kindNo k))
structure Cx (w : World) (base : Nat) (p : Po) : Prop where
  pl : Pl w p.A p.l.length p.l
  low : ∀ a, p.A = some a → p.l ≠ [] → a.block < base
  tbl : Kt w
  b0 : 0 < base
  bw : base ≤ w.heap.size
  big : p.l.length ≤ 140737488355328
theorem Cx.mod {S : Nat → Prop} {w w' : World} {base : Nat} {p : Po} (c : Cx w base p) (m : Mod S w w') (hS : ∀ b, b < w.heap.size → S b → base ≤ b) : Cx w' base p := by
  have hb := c.bw
  refine ⟨c.pl.mod m fun a ha hn e => ?_, c.low, fun k h0 h5 => m.cell (c.tbl k h0 h5) fun e => ?_, c.b0, Nat.le_trans c.bw m.size, c.big⟩
  · have := c.low a ha hn
    have := hS _ (by omega) e
    omega
  · have h1 := c.b0
    have e : S 0 := e
    have h2 := hS _ (by omega) e
    omega
theorem Cx.new {w w' : World} {base : Nat} {p : Po} (c : Cx w base p) (n : New w w') : Cx w' base p := c.mod n fun _ _ h => h.elim
/-- A writer of classes in memory. -/
structure Wi (w : World) (base : Nat) (p : Po) (h g : Nat) (v : Value) (t : WT) : Prop where
  blk : w.heap[h]? = some (.cells #[.pointer (some ⟨g, 0, none⟩), p.v, .bool t.2] 82 (0, 0))
  wr : Wr w base g v t.1
  ne : h ≠ g
  off : v.ownBlock ≠ some h
  bh : base ≤ h
  bg : base ≤ g
  cx : Cx w base p
section
variable {w w' w1 w2 : World} {base h g : Nat} {p : Po} {v v' v1 v2 : Value} {t t2 : WT}
theorem Wi.lt (c : Wi w base p h g v t) : h < w.heap.size ∧ g < w.heap.size := ⟨(Array.getElem?_eq_some_iff.1 c.blk).1, c.wr.lt⟩
theorem Wi.bw (c : Wi w base p h g v t) : base ≤ w.heap.size := c.cx.bw
theorem Wi.new (c : Wi w base p h g v t) (n : New w w') : Wi w' base p h g v t := ⟨n.blk c.blk, c.wr.new n, c.ne, c.off, c.bh, c.bg, c.cx.new n⟩
abbrev WH (h g : Nat) (v : Value) : Nat → Prop := fun b => WS g v b ∨ b = h
structure Ki (w : World) (base : Nat) (p : Po) (h g : Nat) (v : Value) (w' : World) (v' : Value) (t : WT) : Prop where
  wi : Wi w' base p h g v' t
  mod : Mod (WH h g v) w w'
  st : stayed w v v'
theorem Ki.refl (c : Wi w base p h g v t) : Ki w base p h g v w v t := ⟨c, Mod.refl _ _, stayed.refl w v⟩
theorem Ki.new (c : Ki w base p h g v w' v' t) (n : New w' w2) : Ki w base p h g v w2 v' t := ⟨c.wi.new n, both c.mod n.mod, c.st⟩
theorem Ki.then (c : Ki w base p h g v w1 v1 t) (k : Ki w1 base p h g v1 w2 v2 t2) : Ki w base p h g v w2 v2 t2 := by
  refine ⟨k.wi, Mod.trans c.mod k.mod ?_, stayed.trans c.st c.mod.size k.st⟩
  rintro b hb ((e | e) | e)
  · exact .inl (.inl e)
  · rcases c.st b e.symm with h1 | h1
    · exact .inl (.inr h1.symm)
    · omega
  · exact .inr e
theorem Wi.at_ (c : Wi w base p h g v t) {b : Nat} (e : WH h g v b) : base ≤ b := by
  have h1 := c.bh
  have h2 := c.bg
  rcases e with (e | e) | e
  · omega
  · exact (c.wr.vlt e.symm).1
  · omega
theorem Wi.old (c : Wi w base p h g v t) (m : Mod (WH h g v) w w') : Mod (fun b => base ≤ b) w w' := m.mono fun b _ e => c.at_ e
theorem Ki.old {t' : WT} (c : Wi w base p h g v t) (k : Ki w base p h g v w' v' t') : Mod (fun b => base ≤ b) w w' := c.old k.mod
theorem Wi.hi (c : Wi w base p h g v t) {b : Nat} (hb : w.heap.size ≤ b) : ¬ WH h g v b := by
  have := c.lt
  rintro ((e | e) | e)
  · omega
  · exact absurd (c.wr.vlt e.symm).2 (by omega)
  · omega
theorem wr_mod {S : Nat → Prop} {bs : List UInt8} (h : Wr w base g v bs) (m : Mod S w w') (hg : ¬ S g) (hv : ∀ k, v.ownBlock = some k → ¬ S k) : Wr w' base g v bs :=
  ⟨m.blk h.blk hg, own_mod m h.own hv, h.off⟩
theorem Wi.set (c : Wi w base p h g v t) (m : Mod (fun b => b = h) w w') {b : Bool} (hb : w'.heap[h]? = some (.cells #[.pointer (some ⟨g, 0, none⟩), p.v, .bool b] 82 (0, 0))) : Ki w base p h g v w' v (t.1, b) :=
  ⟨⟨hb, wr_mod c.wr m (fun e => c.ne e.symm) (fun k hk e => c.off (by rw [hk, e])), c.ne, c.off, c.bh, c.bg, c.cx.mod m fun b _ e => by rw [e]; exact c.bh⟩, m.mono fun _ _ e => .inr e, stayed.refl w v⟩
theorem Wi.act {bs : List UInt8} (c : Wi w base p h g v t) (k : Wk w base g v w' v' bs) : Ki w base p h g v w' v' (bs, t.2) := by
  have hl := c.lt.1
  refine ⟨⟨k.mod.blk c.blk ?_, k.wr, c.ne, ?_, c.bh, c.bg, c.cx.mod k.mod fun b _ e => c.at_ (.inl e)⟩, k.mod.mono fun _ _ e => .inl e, k.st⟩
  · rintro (e | e)
    · exact c.ne e
    · exact c.off e.symm
  · intro e
    rcases k.st h e with e | e
    · exact c.off e
    · omega
/-- A block that is none of the writer's stays. -/
theorem Ki.blk {t' : WT} {o : Obj} {b : Nat} (k : Ki w base p h g v w' v' t') (hb : w.heap[b]? = some o) (hn : ¬ WH h g v b) : w'.heap[b]? = some o := k.mod.blk hb hn
theorem Ki.hid {t' : WT} (k : Ki w base p h g v w' v' t') {b : Nat} (hb : b < w.heap.size) (hn : ¬ WH h g v b) : ¬ WH h g v' b := by
  rintro ((e | e) | e)
  · exact hn (.inl (.inl e))
  · rcases k.st b e.symm with h1 | h1
    · exact hn (.inl (.inr h1.symm))
    · omega
  · exact hn (.inr e)
end
theorem cell0 {w : World} {b : Nat} {u : Value} {ty : TypeId} (h : w.heap[b]? = some (.cells #[u] ty (0, 0))) : w.cell? ⟨b, 0, none⟩ = some u := by
  rw [cell_of_row _ _ 0 _ _ _ h]
  rfl
theorem allErr_good (k : Int) (zs : List Int) : (!decide (allErr k false zs = 0)) = !good k false zs := by
  unfold allErr
  cases good k false zs <;> rfl
theorem must_ok (base : Nat) (p : Po) (h g : Nat) (v : Value) (t : WT) (is : Bool) (w : World) (c : Wi w base p h g v t) :
    Calls Tryd.prog 41 #[.pointer (some ⟨h, 0, none⟩), .bool is] w fun e w' => e = .returned (.tuple #[]) ∧ Ki w base p h g v w' v (t.1, t.2 || !is) := by
  refine enter ok Tryd.func41 rfl rfl rfl ?_
  have hb := c.blk
  refine Exists.intro t.2 (And.intro (cellB hb rfl) ?_)
  refine if_ (fun hx => ?_) (fun hx => ?_)
  · refine And.intro ⟨_, cellB hb rfl⟩ (And.intro (fzB hb _) (force_ ?_))
    refine stK hb (show (2 : Nat) < 3 by decide) ?_
    intro w1 hb1 m1 s1
    rw [hx, Bool.true_or]
    exact ⟨rfl, c.set m1 hb1⟩
  · refine And.intro ⟨_, cellB hb rfl⟩ (And.intro (fzB hb _) (force_ ?_))
    refine stK hb (show (2 : Nat) < 3 by decide) ?_
    intro w1 hb1 m1 s1
    rw [hx, Bool.false_or]
    exact ⟨rfl, c.set m1 hb1⟩
theorem two_ok (base : Nat) (p : Po) (h g : Nat) (v : Value) (t : WT) (C : Option Addr) (q qc : Nat) (zs : List Int) (w : World) (c : Wi w base p h g v t) (hz : Row w C (ivs zs)) (hq : q = zs.length) (hC : ∀ a, C = some a → zs ≠ [] → ¬ WS g v a.block) (hm : t.1.length + 8 * zs.length ≤ 140737488355328) :
    Calls Tryd.prog 36 #[.pointer (some ⟨h, 0, none⟩), .slice C q qc] w fun e w' => e = .returned (.tuple #[]) ∧ ∃ v', Ki w base p h g v w' v' (noteU t 2 zs) := by
  refine enter ok Tryd.func36 rfl rfl rfl ?_
  refine Exists.intro (some ⟨g, 0, none⟩) (And.intro (cellB c.blk rfl) ?_)
  refine call_ (WU_ok base g v t.1 ((2 : Nat) : Int) C q qc zs w c.wr hz hq hC hm c.bw) ?_
  rintro e w1 ⟨rfl, v1, h1, h2, h3⟩
  refine ⟨_, rfl, ?_⟩
  have c1 := c.act ⟨h1, h2, h3⟩
  have hb := c1.wi.blk
  have hg := allErr_good ((2 : Nat) : Int) zs
  refine if_n (fun hne => ?_) (fun h0 => ?_)
  · replace hne : ¬ allErr ((2 : Nat) : Int) false zs = 0 := hne
    rw [decide_eq_false hne] at hg
    have e : noteU t 2 zs = (allBs t.1 ((2 : Nat) : Int) false zs, true) := by
      unfold noteU
      rw [← hg]
      simp
    rw [e]
    refine And.intro ⟨_, cellB hb rfl⟩ (And.intro (fzB hb _) (force_ ?_))
    refine stK hb (show (2 : Nat) < 3 by decide) ?_
    intro w2 hb2 m2 s2
    exact ⟨rfl, v1, c1.then (c1.wi.set m2 hb2)⟩
  · replace h0 : allErr ((2 : Nat) : Int) false zs = 0 := h0
    rw [decide_eq_true h0] at hg
    have e : noteU t 2 zs = (allBs t.1 ((2 : Nat) : Int) false zs, t.2) := by
      unfold noteU
      rw [← hg]
      simp
    rw [e]
    refine Exists.intro t.2 (And.intro (cellB hb rfl) ?_)
    refine And.intro ⟨_, cellB hb rfl⟩ (And.intro (fzB hb _) (force_ ?_))
    refine stK hb (show (2 : Nat) < 3 by decide) ?_
    intro w2 hb2 m2 s2
    exact ⟨rfl, v1, c1.then (c1.wi.set m2 hb2)⟩
/-- Numbers of a block of their own. -/
theorem two1_ok (base : Nat) (p : Po) (h g : Nat) (v : Value) (t : WT) (zs : List Int) (n : Nat) (w : World) (c : Wi w base p h g v t) (hn : n = zs.length) (hm : t.1.length + 8 * zs.length ≤ 140737488355328) :
    Calls Tryd.prog 36 #[.pointer (some ⟨h, 0, none⟩), .slice (some ⟨w.heap.size, 0, none⟩) n n] (w.alloc (.cells (ivs zs).toArray 3)) fun e w' => e = .returned (.tuple #[]) ∧ ∃ v', Ki w base p h g v w' v' (noteU t 2 zs) := by
  have n1 := New.alloc w (.cells (ivs zs).toArray 3)
  refine (two_ok base p h g v t (some ⟨w.heap.size, 0, none⟩) n n zs _ (c.new n1) (row_alloc w (ivs zs) _ _) hn c.wr.off1 hm).mono ?_
  rintro e w' ⟨rfl, v', k'⟩
  exact ⟨rfl, v', ((Ki.refl c).new n1).then k'⟩
theorem WUn (base : Nat) (p : Po) (h g : Nat) (v : Value) (t : WT) (k : Nat) (z : Int) (w : World) (c : Wi w base p h g v t) (hm : t.1.length ≤ 1000000000) :
    Calls Tryd.prog 35 #[.pointer (some ⟨g, 0, none⟩), .int .i64 (k : Int), .slice (some ⟨w.heap.size, 0, none⟩) 1 1] (w.alloc (.cells #[.int .i64 z] 3)) fun e w' => e = .returned (.int .i64 (allErr k false [z])) ∧ ∃ v', Ki w base p h g v w' v' (allBs t.1 k false [z], t.2) := by
  have a1 := New.alloc w (.cells #[.int .i64 z] 3)
  refine (WU_ok base g v t.1 k (some ⟨w.heap.size, 0, none⟩) 1 1 [z] _ (c.wr.new a1) (one_i64 w z) rfl c.wr.off1 (by simp; omega) (Nat.le_trans c.bw a1.size)).mono ?_
  rintro e w' ⟨rfl, v', h1, h2, h3⟩
  exact ⟨rfl, v', c.act (wk_of c.wr h1 h2 h3)⟩
/-- Bytes put. -/
theorem WBn (base : Nat) (p : Po) (h g : Nat) (v : Value) (t : WT) (C : Option Addr) (q qc : Nat) (ys : List UInt8) (w : World) (c : Wi w base p h g v t) (hy : Row w C (bvs ys)) (hq : q = ys.length) (hm : t.1.length + ys.length ≤ 1000000000) :
    Calls Tryd.prog 72 #[.pointer (some ⟨g, 0, none⟩), .slice C q qc] w fun e w' => e = .returned (.int .i64 0) ∧ ∃ v', Ki w base p h g v w' v' (t.1 ++ ys, t.2) := by
  refine (WB1 base g v t.1 C q qc ys w c.wr hy hq hm c.bw).mono ?_
  rintro e w' ⟨rfl, v', k⟩
  exact ⟨rfl, v', c.act k⟩
theorem part_ok (base : Nat) (p : Po) (h g : Nat) (v : Value) (t : WT) (w : World) (c : Wi w base p h g v t) :
    Calls Tryd.prog 45 #[.pointer (some ⟨h, 0, none⟩)] w fun e w' => ∃ h', h' ≠ w.heap.size ∧ e = .returned (.pointer (some ⟨h', 0, none⟩)) ∧ Wi w' base p h' w.heap.size (.slice none 0 0) ([], false) ∧ w.heap.size ≤ h' ∧ New w w' := by
  refine enter ok Tryd.func45 rfl rfl rfl ?_
  refine seq_assign ?_
  refine seq_cut (σ := Nat) (fun h' => [(2, .pointer (some ⟨h', 0, none⟩))]) (fun h' w' => h' ≠ w.heap.size ∧ Wi w' base p h' w.heap.size (.slice none 0 0) ([], false) ∧ w.heap.size ≤ h' ∧ New w w') ?_ ?_
  rotate_left
  · intro K hK
    refine draw_ (w := w) ok (.q 1 (.q 2 (.q 3 (.q 4 (.e 0 (.q 5 (.e 6 (.q 7 .done)))))))) [7] (New w) (by kernel_rfl) (by kernel_rfl) (by kernel_rfl) (by kernel_rfl) (by kernel_rfl) (New.drew _) ?_
    refine Exists.intro p.A (Exists.intro p.l.length (Exists.intro p.c (And.intro (fun w'' hw => cellB (hw.blk c.blk) rfl) ?_)))
    have nd := New.drew w
    have zd : w.drew.heap.size = w.heap.size := rfl
    refine call_ (Make_ok w.drew) ?_
    rintro e w2 ⟨rfl, wr2, n2, s2⟩
    refine ⟨_, rfl, ?_⟩
    refine Exists.intro (New w) (And.intro (fun _ h => h) (And.intro (nd.trans n2) ?_))
    have n3 := New.alloc w2 (.cells #[.pointer (some ⟨w.heap.size, 0, none⟩), p.v, .bool false] 82)
    have hb3 := heap_alloc_new w2 (.cells #[.pointer (some ⟨w.heap.size, 0, none⟩), p.v, .bool false] 82)
    have hw := c.bw
    refine Exists.intro (New w) (And.intro (fun _ h => h) (And.intro ((nd.trans n2).trans n3) ?_))
    refine hK w2.heap.size _ _ ⟨rfl, trivial⟩ ⟨by omega, ⟨hb3, ⟨(wr2.new n3).blk, ⟨rfl, .inl ⟨rfl, rfl⟩⟩, (wr2.new n3).off⟩, by omega, (fun h => by cases h), by omega, by omega, c.cx.new ((nd.trans n2).trans n3)⟩, by omega, (nd.trans n2).trans n3⟩
  rintro h' w2 fr2 ⟨hne, c2, hle, n2⟩
  exact ⟨h', hne, rfl, c2, hle, n2⟩
theorem idx_step {P : Ent → List UInt8 → Bool} {l : List Ent} {s : List UInt8} {i : Nat} (hi : i < l.length) (h : i ≤ idx P l s) (hp : P l[i] s = false) : i + 1 ≤ idx P l s := by
  rcases Nat.lt_or_ge i (idx P l s) with h1 | h1
  · exact h1
  · have e : idx P l s = i := by omega
    have := idx_at (P := P) (l := l) (s := s) (by omega)
    simp only [e] at this
    rw [hp] at this
    cases this
theorem idx_here {P : Ent → List UInt8 → Bool} {l : List Ent} {s : List UInt8} {i : Nat} (hi : i < l.length) (h : i ≤ idx P l s) (hp : P l[i] s = true) : idx P l s = i := by
  have h1 : idx P l s ≤ i := by
    unfold idx
    refine Nat.le_of_not_lt fun hc => ?_
    have := List.not_of_lt_findIdx hc
    rw [hp] at this
    cases this
  omega
theorem text1_ok (p : Po) (base : Nat) (s : List UInt8) (x : Ent) (S : Addr) (w : World) (_ : Cx w base p) (hS : w.cell? S = some (strV s)) :
    Calls Tryd.prog 76 #[.agg (entC x).toArray, .pointer (some S)] w fun e w' => e = .returned (.bool (utfP x s)) ∧ New w w' := by
  refine enter ok Tryd.func76 rfl rfl rfl ?_
  refine seq_cut (σ := Unit) (fun _ => [(1, .pointer (some S)), (2, .pointer (some ⟨w.heap.size, 0, none⟩))]) (fun _ w' => New w w' ∧ w'.heap[w.heap.size]? = some (.cells (entC x).toArray 42 (0, 0))) ?_ ?_
  rotate_left
  · intro K hK
    exact hK () _ _ ⟨rfl, rfl, trivial⟩ ⟨New.alloc w _, heap_alloc_new w (.cells (entC x).toArray 42)⟩
  rintro _ w1 fr1 ⟨n1, hX⟩
  refine Exists.intro x.tag (And.intro (cellB hX rfl) ?_)
  unfold utfP
  refine if_p (fun h1 => ?_) (fun h1 => ?_)
  · replace h1 : x.tag = 1 := h1
    refine Exists.intro (⟨x.text.toArray⟩ : ByteArray) (And.intro (cellB hX rfl) ?_)
    refine Exists.intro (⟨s.toArray⟩ : ByteArray) (And.intro (n1.cell hS) ?_)
    rw [decide_eq_true h1, Bool.true_and, ← Base.same_iff]
    exact ⟨rfl, n1⟩
  · replace h1 : ¬ x.tag = 1 := h1
    rw [decide_eq_false h1, Bool.false_and]
    exact ⟨rfl, n1⟩
theorem class1_ok (p : Po) (base : Nat) (s : List UInt8) (X Y : Addr) (h g : Nat) (v : Value) (t : WT) (hp : Nat) (x : Ent) (w : World) (c : Cx w base p) (hX : w.cell? X = some (.pointer (some ⟨h, 0, none⟩))) (hY : w.cell? Y = some (strV s)) (hH : w.heap[h]? = some (.cells #[.pointer (some ⟨g, 0, none⟩), p.v, .bool t.2] 82 (0, 0))) (hin : x.tag = 7 → 0 ≤ x.a ∧ x.a < (p.l.length : Int)) :
    Calls Tryd.prog 75 #[.agg (entC x).toArray, .pointer (some X), .pointer (some Y)] w fun e w' => e = .returned (.bool (clsP p.l x s)) ∧ New w w' := by
  refine enter ok Tryd.func75 rfl rfl rfl ?_
  refine seq_cut (σ := Unit) (fun _ => [(1, .pointer (some X)), (2, .pointer (some Y)), (3, .pointer (some ⟨w.heap.size, 0, none⟩))]) (fun _ w' => New w w' ∧ w'.heap[w.heap.size]? = some (.cells (entC x).toArray 42 (0, 0))) ?_ ?_
  rotate_left
  · intro K hK
    exact hK () _ _ ⟨rfl, rfl, rfl, trivial⟩ ⟨New.alloc w _, heap_alloc_new w (.cells (entC x).toArray 42)⟩
  rintro _ w1 fr1 ⟨n1, hx⟩
  refine seq_cut (σ := Bool) (fun b => [(4, .bool b)]) (fun b w' => b = clsP p.l x s ∧ New w w') ?_ ?_
  rotate_left
  · intro K hK
    unfold clsP at hK
    refine draw_ (w := w1) ok (.q 0 (.q 1 (.q 2 (.q 3 (.q 4 (.q 5 (.q 6 (.q 7 (.q 8 (.q 9 (.q 10 (.q 11 (.q 12 (.q 13 (.q 14 (.q 15 (.q 16 .done))))))))))))))))) [16] (New w1) (by kernel_rfl) (by kernel_rfl) (by kernel_rfl) (by kernel_rfl) (by kernel_rfl) (New.drew _) ?_
    refine Exists.intro x.tag (And.intro (fun w'' hw => cellB (hw.blk hx) rfl) ?_)
    refine if_p (fun h1 => ?_) (fun h1 => ?_)
    · replace h1 : x.tag = 7 := h1
      have h2 := hin h1
      have c1 := c.new n1
      have hi : x.a.toNat < p.l.length := by omega
      obtain ⟨a, ea, hok, hc⟩ := c1.pl.at_ hi
      refine Exists.intro (some ⟨h, 0, none⟩) (And.intro (fun w'' hw => hw.cell (n1.cell hX)) ?_)
      refine Exists.intro p.A (Exists.intro p.l.length (Exists.intro p.c (And.intro (fun w'' hw => cellB (hw.blk (n1.blk hH)) rfl) ?_)))
      refine Exists.intro x.a (And.intro (fun w'' hw => cellB (hw.blk hx) rfl) ?_)
      refine And.intro h2.1 (And.intro h2.2 ?_)
      refine some_at ea ?_
      have e1 : at_ p.l ((x.a.toNat : Nat) : Int) = at_ p.l x.a := by rw [Int.toNat_of_nonneg h2.1]
      rw [e1] at hc
      refine Exists.intro (⟨(at_ p.l x.a).text.toArray⟩ : ByteArray) (And.intro (fun w'' hw => hw.cell (hc 1 _ rfl)) ?_)
      refine Exists.intro (⟨s.toArray⟩ : ByteArray) (And.intro (fun w'' hw => hw.cell (n1.cell hY)) ?_)
      refine hK _ _ _ ⟨rfl, trivial⟩ ⟨?_, n1.trans (New.drew _)⟩
      rw [decide_eq_true h1, Bool.true_and, ← Base.same_iff]
    · replace h1 : ¬ x.tag = 7 := h1
      refine hK _ _ _ ⟨rfl, trivial⟩ ⟨?_, n1.trans (New.drew _)⟩
      rw [decide_eq_false h1, Bool.false_and]
  rintro b w2 fr2 ⟨rfl, n2⟩
  exact ⟨rfl, n2⟩
theorem index_text (p : Po) (base : Nat) (s : List UInt8) (S : Addr) (w : World) (c : Cx w base p) (hS : w.cell? S = some (strV s)) :
    Calls Tryd.prog 104 #[p.v, .func (.func 76) #[] #[.pointer (some S)]] w fun e w' => e = .returned (zi (findI utfP p.l s)) ∧ New w w' := by
  refine enter ok Tryd.func104 rfl rfl rfl ?_
  refine den_loop (σ := Nat) (fun i => [(0, p.v), (1, .func (.func 76) #[] #[.pointer (some S)]), (4, zi 0), (7, zi (p.l.length : Int)), (8, zi (i : Int))])
    (fun m i wl => m + i = p.l.length ∧ i ≤ idx utfP p.l s ∧ New w wl) p.l.length 0 ⟨rfl, rfl, rfl, rfl, rfl, trivial⟩ ⟨rfl, Nat.zero_le _, New.refl w⟩ ?_
  rintro m i wl fr0 ⟨hfuel, hno, nl⟩
  refine if_p (fun hlt => ?_) (fun hge => ?_)
  · replace hlt : (i : Int) < (p.l.length : Int) := hlt
    have hi : i < p.l.length := by omega
    obtain ⟨m, rfl⟩ : ∃ m', m = m' + 1 := ⟨m - 1, by omega⟩
    have cl := c.new nl
    obtain ⟨a, ea, hok, hc⟩ := cl.pl.at_ hi
    rw [Pool.at_lt hi] at hok hc
    refine And.intro (by omega) (And.intro hlt ?_)
    refine some_at ea ?_
    refine loadN_row (vs := entC p.l[i]) (by rw [Int.toNat_natCast]; exact hc) rfl ?_
    refine call_ (text1_ok p base s  p.l[i] S wl cl (nl.cell hS)) ?_
    rintro e w' ⟨rfl, n1⟩
    refine ⟨_, rfl, ?_⟩
    refine if_ (fun hb => ?_) (fun hb => ?_)
    · have e : findI utfP p.l s = (i : Int) := by
        unfold findI
        rw [idx_here hi hno hb, if_pos hi]
      rw [e]
      exact ⟨rfl, nl.trans n1⟩
    · have big := c.big
      have inc : Value.int .i64 (IntKind.i64.wrap ((i : Int) + 1)) = .int .i64 ((i + 1 : Nat) : Int) := by
        rw [wrap_i64 (by omega) (by omega)]
        rfl
      exact ⟨m, i + 1, by omega, ⟨rfl, rfl, rfl, rfl, inc, trivial⟩, by omega, idx_step hi hno hb, nl.trans n1⟩
  · replace hge : ¬ (i : Int) < (p.l.length : Int) := hge
    have e : findI utfP p.l s = -1 := by
      unfold findI
      rw [if_neg (by omega)]
    rw [e]
    exact ⟨rfl, nl⟩
theorem index_class (p : Po) (base : Nat) (s : List UInt8) (X Y : Addr) (h g : Nat) (v : Value) (t : WT) (hp : Nat) (w : World) (c : Cx w base p) (hX : w.cell? X = some (.pointer (some ⟨h, 0, none⟩))) (hY : w.cell? Y = some (strV s)) (hH : w.heap[h]? = some (.cells #[.pointer (some ⟨g, 0, none⟩), p.v, .bool t.2] 82 (0, 0))) (hin : ∀ (i : Nat) (hi : i < p.l.length), p.l[i].tag = 7 → 0 ≤ p.l[i].a ∧ p.l[i].a < (p.l.length : Int)) :
    Calls Tryd.prog 104 #[p.v, .func (.func 75) #[] #[.pointer (some X), .pointer (some Y)]] w fun e w' => e = .returned (zi (findI (clsP p.l) p.l s)) ∧ New w w' := by
  refine enter ok Tryd.func104 rfl rfl rfl ?_
  refine den_loop (σ := Nat) (fun i => [(0, p.v), (1, .func (.func 75) #[] #[.pointer (some X), .pointer (some Y)]), (4, zi 0), (7, zi (p.l.length : Int)), (8, zi (i : Int))])
    (fun m i wl => m + i = p.l.length ∧ i ≤ idx (clsP p.l) p.l s ∧ New w wl) p.l.length 0 ⟨rfl, rfl, rfl, rfl, rfl, trivial⟩ ⟨rfl, Nat.zero_le _, New.refl w⟩ ?_
  rintro m i wl fr0 ⟨hfuel, hno, nl⟩
  refine if_p (fun hlt => ?_) (fun hge => ?_)
  · replace hlt : (i : Int) < (p.l.length : Int) := hlt
    have hi : i < p.l.length := by omega
    obtain ⟨m, rfl⟩ : ∃ m', m = m' + 1 := ⟨m - 1, by omega⟩
    have cl := c.new nl
    obtain ⟨a, ea, hok, hc⟩ := cl.pl.at_ hi
    rw [Pool.at_lt hi] at hok hc
    refine And.intro (by omega) (And.intro hlt ?_)
    refine some_at ea ?_
    refine loadN_row (vs := entC p.l[i]) (by rw [Int.toNat_natCast]; exact hc) rfl ?_
    refine call_ (class1_ok p base s X Y h g v t hp p.l[i]  wl cl (nl.cell hX) (nl.cell hY) (nl.blk hH) (fun h7 => hin i hi h7)) ?_
    rintro e w' ⟨rfl, n1⟩
    refine ⟨_, rfl, ?_⟩
    refine if_ (fun hb => ?_) (fun hb => ?_)
    · have e : findI (clsP p.l) p.l s = (i : Int) := by
        unfold findI
        rw [idx_here hi hno hb, if_pos hi]
      rw [e]
      exact ⟨rfl, nl.trans n1⟩
    · have big := c.big
      have inc : Value.int .i64 (IntKind.i64.wrap ((i : Int) + 1)) = .int .i64 ((i + 1 : Nat) : Int) := by
        rw [wrap_i64 (by omega) (by omega)]
        rfl
      exact ⟨m, i + 1, by omega, ⟨rfl, rfl, rfl, rfl, inc, trivial⟩, by omega, idx_step hi hno hb, nl.trans n1⟩
  · replace hge : ¬ (i : Int) < (p.l.length : Int) := hge
    have e : findI (clsP p.l) p.l s = -1 := by
      unfold findI
      rw [if_neg (by omega)]
    rw [e]
    exact ⟨rfl, nl⟩
theorem number_text (p : Po) (base : Nat) (h g : Nat) (v : Value) (t : WT) (s : List UInt8) (S : Addr) (w : World) (c : Wi w base p h g v t) (hS : w.cell? S = some (strV s)) (hm : t.1.length ≤ 1000000000) :
    Calls Tryd.prog 74 #[.pointer (some ⟨h, 0, none⟩), .func (.func 76) #[] #[.pointer (some S)]] w fun e w' => e = .returned (.tuple #[]) ∧ ∃ v', Ki w base p h g v w' v' (noteU (t.1, t.2 || !decide (0 < findI utfP p.l s)) 2 [atN utfP p.l s]) := by
  refine enter ok Tryd.func74 rfl rfl rfl ?_
  obtain ⟨k, hk⟩ : ∃ k, k = findI utfP p.l s := ⟨_, rfl⟩
  have hat : atN utfP p.l s = if k < 0 then 0 else k := by rw [hk]; rfl
  rw [hat, ← hk]
  refine seq_cut (σ := Unit) (fun _ => [(0, .pointer (some ⟨h, 0, none⟩)), (4, zi k)]) (fun _ w' => New w w') ?_ ?_
  rotate_left
  · intro K hK
    refine Exists.intro p.A (Exists.intro p.l.length (Exists.intro p.c (And.intro (cellB c.blk rfl) ?_)))
    refine call_ (index_text p base s S w c.cx hS) ?_
    rintro e w1 ⟨rfl, n1⟩
    refine ⟨_, rfl, ?_⟩
    rw [← hk]
    exact hK () _ _ ⟨rfl, rfl, trivial⟩ n1
  rintro _ w1 fr1 n1
  have c1 := c.new n1
  refine seq_cut (σ := Unit) (fun _ => [(0, .pointer (some ⟨h, 0, none⟩)), (4, zi k)]) (fun _ w' => Ki w base p h g v w' v (t.1, t.2 || !decide (0 < k))) ?_ ?_
  rotate_left
  · intro K hK
    refine call_ (must_ok base p h g v t (decide (0 < k)) w1 c1) ?_
    rintro e w2 ⟨rfl, k2⟩
    refine ⟨_, rfl, ?_⟩
    exact hK () _ _ ⟨rfl, rfl, trivial⟩ (((Ki.refl c).new n1).then k2)
  rintro _ w2 fr2 k2
  refine call_ (two1_ok base p h g v _ [if k < 0 then 0 else k] 1 w2 k2.wi rfl (by simp; omega)) ?_
  rintro e w3 ⟨rfl, v3, k3⟩
  refine ⟨_, rfl, ?_⟩
  exact ⟨rfl, v3, k2.then k3⟩
theorem class_in {l : List Ent} (hO : OkPool l) (i : Nat) (hi : i < l.length) (h7 : l[i].tag = 7) : 0 ≤ l[i].a ∧ l[i].a < (l.length : Int) := by
  obtain ⟨_, hf⟩ := Pool.tag_right hO.1 hi (by rw [Pool.at_lt hi, h7]; decide)
  have := Pool.demand_class (Pool.fits_demand hf) (by rw [Pool.at_lt hi]; exact h7)
  rw [Pool.at_lt hi] at this
  obtain ⟨k, h1, h2, _⟩ := Pool.tag_in (by decide) this
  omega
theorem number_class (p : Po) (base : Nat) (h g : Nat) (v : Value) (t : WT) (s : List UInt8) (X Y : Addr) (w : World) (c : Wi w base p h g v t) (hX : w.cell? X = some (.pointer (some ⟨h, 0, none⟩))) (hY : w.cell? Y = some (strV s)) (hO : OkPool p.l) (hm : t.1.length ≤ 1000000000) :
    Calls Tryd.prog 74 #[.pointer (some ⟨h, 0, none⟩), .func (.func 75) #[] #[.pointer (some X), .pointer (some Y)]] w fun e w' => e = .returned (.tuple #[]) ∧ ∃ v', Ki w base p h g v w' v' (noteU (t.1, t.2 || !decide (0 < findI (clsP p.l) p.l s)) 2 [atN (clsP p.l) p.l s]) := by
  refine enter ok Tryd.func74 rfl rfl rfl ?_
  obtain ⟨k, hk⟩ : ∃ k, k = findI (clsP p.l) p.l s := ⟨_, rfl⟩
  have hat : atN (clsP p.l) p.l s = if k < 0 then 0 else k := by rw [hk]; rfl
  rw [hat, ← hk]
  refine seq_cut (σ := Unit) (fun _ => [(0, .pointer (some ⟨h, 0, none⟩)), (4, zi k)]) (fun _ w' => New w w') ?_ ?_
  rotate_left
  · intro K hK
    refine Exists.intro p.A (Exists.intro p.l.length (Exists.intro p.c (And.intro (cellB c.blk rfl) ?_)))
    refine call_ (index_class p base s X Y h g v t 0 w c.cx hX hY c.blk (class_in hO)) ?_
    rintro e w1 ⟨rfl, n1⟩
    refine ⟨_, rfl, ?_⟩
    rw [← hk]
    exact hK () _ _ ⟨rfl, rfl, trivial⟩ n1
  rintro _ w1 fr1 n1
  have c1 := c.new n1
  refine seq_cut (σ := Unit) (fun _ => [(0, .pointer (some ⟨h, 0, none⟩)), (4, zi k)]) (fun _ w' => Ki w base p h g v w' v (t.1, t.2 || !decide (0 < k))) ?_ ?_
  rotate_left
  · intro K hK
    refine call_ (must_ok base p h g v t (decide (0 < k)) w1 c1) ?_
    rintro e w2 ⟨rfl, k2⟩
    refine ⟨_, rfl, ?_⟩
    exact hK () _ _ ⟨rfl, rfl, trivial⟩ (((Ki.refl c).new n1).then k2)
  rintro _ w2 fr2 k2
  refine call_ (two1_ok base p h g v _ [if k < 0 then 0 else k] 1 w2 k2.wi rfl (by simp; omega)) ?_
  rintro e w3 ⟨rfl, v3, k3⟩
  refine ⟨_, rfl, ?_⟩
  exact ⟨rfl, v3, k2.then k3⟩
theorem wtext_ok (p : Po) (base : Nat) (h g : Nat) (v : Value) (t : WT) (s : List UInt8) (w : World) (c : Wi w base p h g v t) (hm : t.1.length ≤ 1000000000) :
    Calls Tryd.prog 42 #[.pointer (some ⟨h, 0, none⟩), strV s] w fun e w' => e = .returned (.tuple #[]) ∧ ∃ v' t', Ki w base p h g v w' v' t' ∧ Wri (utfT p.l) 2 t s t' := by
  refine enter ok Tryd.func42 rfl rfl rfl ?_
  refine seq_cut (σ := Unit) (fun _ => [(0, .pointer (some ⟨h, 0, none⟩)), (3, .pointer (some ⟨w.heap.size, 0, none⟩))]) (fun _ w' => New w w' ∧ w'.heap[w.heap.size]? = some (.cells #[strV s] 9 (0, 0))) ?_ ?_
  rotate_left
  · intro K hK
    exact hK () _ _ ⟨rfl, rfl, trivial⟩ ⟨New.alloc w _, heap_alloc_new w (.cells #[strV s] 9)⟩
  rintro _ w1 fr1 ⟨n1, hS⟩
  refine call_ (number_text p base h g v t s ⟨w.heap.size, 0, none⟩ w1 (c.new n1) (cell0 hS) hm) ?_
  rintro e w2 ⟨rfl, v2, k2⟩
  refine ⟨_, rfl, ?_⟩
  exact ⟨rfl, v2, _, ((Ki.refl c).new n1).then k2, Wri.ref rfl rfl⟩
theorem wclass_ok (p : Po) (base : Nat) (h g : Nat) (v : Value) (t : WT) (s : List UInt8) (w : World) (c : Wi w base p h g v t) (hO : OkPool p.l) (hm : t.1.length ≤ 1000000000) :
    Calls Tryd.prog 38 #[.pointer (some ⟨h, 0, none⟩), strV s] w fun e w' => e = .returned (.tuple #[]) ∧ ∃ v' t', Ki w base p h g v w' v' t' ∧ Wri (clsT p.l) 2 t s t' := by
  refine enter ok Tryd.func38 rfl rfl rfl ?_
  refine seq_cut (σ := Nat × Nat) (fun x => [(2, .pointer (some ⟨x.1, 0, none⟩)), (3, .pointer (some ⟨x.2, 0, none⟩))]) (fun x w' => New w w' ∧ w'.heap[x.1]? = some (.cells #[.pointer (some ⟨h, 0, none⟩)] 78 (0, 0)) ∧ w'.heap[x.2]? = some (.cells #[strV s] 9 (0, 0))) ?_ ?_
  rotate_left
  · intro K hK
    have n1 := New.alloc w (.cells #[.pointer (some ⟨h, 0, none⟩)] 78)
    have h1 := heap_alloc_new w (.cells #[.pointer (some ⟨h, 0, none⟩)] 78)
    have n2 := New.alloc (w.alloc (.cells #[.pointer (some ⟨h, 0, none⟩)] 78)) (.cells #[strV s] 9)
    exact hK (w.heap.size, _) _ _ ⟨rfl, rfl, trivial⟩ ⟨n1.trans n2, n2.blk h1, heap_alloc_new _ (.cells #[strV s] 9)⟩
  rintro ⟨x1, x2⟩ w1 fr1 ⟨n1, h1, h2⟩
  dsimp only at h1 h2
  refine Exists.intro (some ⟨h, 0, none⟩) (And.intro (cell0 h1) ?_)
  refine call_ (number_class p base h g v t s ⟨x1, 0, none⟩ ⟨x2, 0, none⟩ w1 (c.new n1) (cell0 h1) (cell0 h2) hO hm) ?_
  rintro e w2 ⟨rfl, v2, k2⟩
  refine ⟨_, rfl, ?_⟩
  exact ⟨rfl, v2, _, ((Ki.refl c).new n1).then k2, Wri.ref rfl rfl⟩

end Go.Proofs.YtdcaafldnbcdkaaDoor.Class

/-! ### KRead1 -/
namespace Go.Proofs.YtdcaafldnbcdkaaDoor.Class
open Go Go.Proofs.YtdcaafldnbcdkaaDoor Go.Proofs.YtdcaafldnbcdkaaDoor.Eng Go.Proofs Go.Proofs.YtdcaafldnbcdkaaDoor.Word Go.Proofs.YtdcaafldnbcdkaaDoor.Fmt
open Go.Proofs.YtdcaafldnbcdkaaDoor.Pool (rd_modN rd_low RS Ent at_ poolF strV entC entV EntOk Pl OkPool both own_low tagAt)
set_option maxRecDepth 10000

/-- Blocks that a reader of classes looks at. -/
def Iin (h g : Nat) (A : Option Addr) (bs : List UInt8) (p : Po) (b : Nat) : Prop := b = h ∨ b = g ∨ (∃ a, A = some a ∧ bs ≠ [] ∧ b = a.block) ∨ (∃ a, p.A = some a ∧ p.l ≠ [] ∧ b = a.block) ∨ b = 0
/-- A reader of classes in memory. -/
structure Ir (w : World) (h g : Nat) (A : Option Addr) (c : Nat) (bs : List UInt8) (p : Po) (s : RSt) : Prop where
  blk : w.heap[h]? = some (.cells #[.pointer (some ⟨g, 0, none⟩), p.v, .bool s.2] 108 (0, 0))
  rd : Word.Rd w g A c bs s.1
  ne : h ≠ g
  off : ∀ a, A = some a → bs ≠ [] → a.block ≠ h
  pl : Pl w p.A p.l.length p.l
  tbl : Kt w
  pd : ∀ b, (∃ a, p.A = some a ∧ p.l ≠ [] ∧ b = a.block) ∨ b = 0 → b ≠ h ∧ b ≠ g
section
variable {w w' w'' : World} {h g : Nat} {A : Option Addr} {c : Nat} {bs : List UInt8} {p : Po} {s s' : RSt}
theorem Ir.modN {S : Nat → Prop} (q : Ir w h g A c bs p s) (k : Mod S w w') (hS : ∀ b, Iin h g A bs p b → ¬ S b) : Ir w' h g A c bs p s :=
  ⟨k.blk q.blk (hS _ (.inl rfl)), rd_modN q.rd k (hS _ (.inr (.inl rfl))) (fun a ha hn => hS _ (.inr (.inr (.inl ⟨a, ha, hn, rfl⟩)))), q.ne, q.off, q.pl.mod k (fun a ha hn => hS _ (.inr (.inr (.inr (.inl ⟨a, ha, hn, rfl⟩))))), fun k' h0 h5 => k.cell (q.tbl k' h0 h5) (hS _ (.inr (.inr (.inr (.inr rfl))))), q.pd⟩
theorem Ir.new (q : Ir w h g A c bs p s) (k : New w w') : Ir w' h g A c bs p s := q.modN k fun _ _ e => e
theorem Ir.lt (q : Ir w h g A c bs p s) {b : Nat} (hb : Iin h g A bs p b) : b < w.heap.size := by
  rcases hb with rfl | rfl | ⟨a, ha, hn, rfl⟩ | ⟨a, ha, hn, rfl⟩ | rfl
  · exact (Array.getElem?_eq_some_iff.1 q.blk).1
  · exact q.rd.lt
  · exact rd_low q.rd a ha hn
  · have hr := row_of_rows2 q.pl.row
    refine hr.lt (fun e => hn ?_) ha
    have := congrArg List.length e
    cases hl : p.l with
    | nil => rfl
    | cons x r =>
      rw [hl] at this
      simp [entC] at this
  · exact World.block_lt_of_cell? w _ (q.tbl 0 (by decide) (by decide))
theorem Ir.set (q : Ir w h g A c bs p s) (m : Mod (fun b => b = h) w w') {b : Bool} (hb : w'.heap[h]? = some (.cells #[.pointer (some ⟨g, 0, none⟩), p.v, .bool b] 108 (0, 0))) : Ir w' h g A c bs p (s.1, b) :=
  ⟨hb, rd_modN q.rd m (fun e => q.ne e.symm) (fun a ha hn e => q.off a ha hn e), q.ne, q.off, q.pl.mod m (fun a ha hn e => (q.pd _ (.inl ⟨a, ha, hn, rfl⟩)).1 e), fun k' h0 h5 => m.cell (q.tbl k' h0 h5) (fun e => (q.pd _ (.inr rfl)).1 e), q.pd⟩
/-- A new block is none of the reader's. -/
theorem Ir.loc {S : Nat → Prop} (q : Ir w h g A c bs p s) (q' : Ir w' h g A c bs p s') (m : Mod S w' w'') (hS : ∀ b, S b → w.heap.size ≤ b) : Ir w'' h g A c bs p s' :=
  q'.modN m fun b hb e => by
    have h1 := q.lt hb
    have h2 := hS b e
    omega
end
theorem get_nat (bs : List UInt8) (i k : Nat) : 0 ≤ (Word.get false bs i (k : Int)).1 ∧ (Word.get false bs i (k : Int)).1 < 256 ^ k := by
  have hpos : (0 : Int) < 256 ^ k := Int.pow_pos (by decide)
  unfold Word.get
  have hl := be_lt ((bs.drop i).take k)
  have hlen : ((bs.drop i).take k).length ≤ k := by rw [List.length_take]; omega
  have hp : (256 : Nat) ^ ((bs.drop i).take k).length ≤ 256 ^ k := Nat.pow_le_pow_right (by decide) hlen
  rw [Int.toNat_natCast]
  generalize be ((bs.drop i).take k) = v at hl
  have hv : v < 256 ^ k := Nat.lt_of_lt_of_le hl hp
  have hv2 : (v : Int) < 256 ^ k := by exact_mod_cast hv
  split
  · split
    · exact ⟨by simp, hpos⟩
    · rw [if_neg (by decide)]
      split
      · exact ⟨Int.natCast_nonneg _, hv2⟩
      · exact ⟨by simp, hpos⟩
  · exact ⟨by simp, hpos⟩
theorem get_on (bs : List UInt8) (i k : Nat) (hk : wide (k : Int) = true) (hi : i ≤ bs.length) : i < (Word.get false bs i (k : Int)).2.2 ∨ (!decide ((Word.get false bs i (k : Int)).2.1 = 0)) = true := by
  rcases get_num k false hk bs i hi with ⟨v, h1, h2, h3⟩ | ⟨h1, e, he, h2⟩
  · rw [h2]
    left
    have := wide4 hk
    rw [Int.toNat_natCast] at this
    show i < i + k
    omega
  · rw [h2]
    right
    rw [decide_eq_false he]
    rfl
/-- The next number. -/
theorem u_ok (h g : Nat) (A : Option Addr) (c : Nat) (bs : List UInt8) (p : Po) (s : RSt) (k : Nat) (hk : wide (k : Int) = true) (w : World) (q : Ir w h g A c bs p s) :
    Calls Tryd.prog 60 #[.pointer (some ⟨h, 0, none⟩), .int .i64 (k : Int)] w fun e w' => ∃ n s', e = .returned (zi n) ∧ Rd (tF (Fmt.num k false hk)) bs s n s' ∧ (0 ≤ n ∧ n < 256 ^ k) ∧ On s s' ∧ Ir w' h g A c bs p s' ∧ Mod (RS h g) w w' := by
  obtain ⟨i, b⟩ := s
  have hat := q.rd.at_
  refine enter ok Tryd.func60 rfl rfl rfl ?_
  refine seq_assign ?_
  refine Exists.intro b (And.intro (cellB q.blk rfl) ?_)
  refine if_ (fun hne => ?_) (fun h0 => ?_)
  · subst hne
    exact ⟨0, (i, true), rfl, Rd.bad rfl hat 0, ⟨by decide, Int.pow_pos (by decide)⟩, ⟨Nat.le_refl _, .inr rfl, fun h => h⟩, q, (New.refl w).mod⟩
  subst h0
  refine skip_ (thenF_ ?_)
  refine seq_cut (σ := Int × Int) (fun t => [(0, .pointer (some ⟨h, 0, none⟩)), (5, zi t.1), (6, zi t.2)]) (fun t w' => t.1 = (Word.get false bs i (k : Int)).1 ∧ t.2 = (Word.get false bs i (k : Int)).2.1 ∧ Word.Rd w' g A c bs (Word.get false bs i (k : Int)).2.2 ∧ Mod (fun b => b = g) w w') ?_ ?_
  rotate_left
  · intro K hK
    refine Exists.intro (some ⟨g, 0, none⟩) (And.intro (cellB q.blk rfl) ?_)
    refine call_ (U_ok g A c bs i k w q.rd) ?_
    rintro e w4 ⟨rfl, rd4, m4⟩
    refine ⟨_, rfl, ?_⟩
    exact hK ((Word.get false bs i (k : Int)).1, (Word.get false bs i (k : Int)).2.1) _ _ ⟨rfl, rfl, rfl, trivial⟩ ⟨rfl, rfl, rd4, m4⟩
  rintro ⟨n, er⟩ w4 fr4 ⟨hn, her, rd4, m4⟩
  dsimp only at hn her
  have hb4 := m4.blk q.blk q.ne
  have r1 := Rd.num hk i hat
  have r2 := get_nat bs i k
  have r3 := get_on bs i k hk hat
  rw [← hn, ← her] at r1
  rw [← hn] at r2
  rw [← her] at r3
  refine And.intro ⟨_, cellB hb4 rfl⟩ (And.intro (fzB hb4 _) (force_ ?_))
  refine stK hb4 (show (2 : Nat) < 3 by decide) ?_
  intro w5 hb5 m5 s5
  refine ⟨n, ((Word.get false bs i (k : Int)).2.2, !decide (er = 0)), rfl, r1, r2, ⟨r1.1, r3, fun h => (by cases h)⟩, ⟨hb5, rd_modN rd4 m5 (fun e => q.ne e.symm) (fun a ha hb e => q.off a ha hb e), q.ne, q.off, ?_, ?_, q.pd⟩, both (m4.mono fun _ _ e => .inl e) (m5.mono fun _ _ e => .inr e)⟩
  · exact (q.pl.mod m4 (fun a ha hn e => (q.pd _ (.inl ⟨a, ha, hn, rfl⟩)).2 e)).mod m5 (fun a ha hn e => (q.pd _ (.inl ⟨a, ha, hn, rfl⟩)).1 e)
  · exact fun k' h0 h5 => m5.cell (m4.cell (q.tbl k' h0 h5) (fun e => (q.pd _ (.inr rfl)).2 e)) (fun e => (q.pd _ (.inr rfl)).1 e)
/-- The text of an entry. -/
def ofT (l : List Ent) (i tag : Int) : List UInt8 := if i < (l.length : Int) ∧ (at_ l i).tag = tag then (if tag = 7 then (at_ l (at_ l i).a).text else (at_ l i).text) else []
def ofB (l : List Ent) (i tag : Int) : Bool := !decide (i < (l.length : Int) ∧ (at_ l i).tag = tag)
theorem of_ok (h g : Nat) (A : Option Addr) (c : Nat) (bs : List UInt8) (p : Po) (s : RSt) (i tag : Int) (w : World) (q : Ir w h g A c bs p s) (hO : OkPool p.l) (hi : 0 ≤ i) (ht : tag = 1 ∨ tag = 7) :
    Calls Tryd.prog 61 #[.pointer (some ⟨h, 0, none⟩), zi i, zi tag] w fun e w' => e = .returned (strV (ofT p.l i tag)) ∧ Ir w' h g A c bs p (s.1, s.2 || ofB p.l i tag) ∧ Mod (RS h g) w w' := by
  refine enter ok Tryd.func61 rfl rfl rfl ?_
  refine seq_assign ?_
  have bad : ¬ (i < (p.l.length : Int) ∧ (at_ p.l i).tag = tag) → ∀ {w' : World}, Ir w' h g A c bs p (s.1, true) → Mod (RS h g) w w' → ∃ K', K' = (Ending.returned (strV []) = .returned (strV (ofT p.l i tag)) ∧ Ir w' h g A c bs p (s.1, s.2 || ofB p.l i tag) ∧ Mod (RS h g) w w') ∧ K' := fun hn w' q' m => by
    refine ⟨_, rfl, ?_⟩
    unfold ofT ofB
    rw [if_neg hn, decide_eq_false hn]
    refine ⟨rfl, ?_, m⟩
    cases hs : s.2 <;> exact q'
  refine seq_cut (σ := Unit) (fun _ => [(0, .pointer (some ⟨h, 0, none⟩)), (1, zi i), (2, zi tag)]) (fun _ w' => w' = w ∧ i < (p.l.length : Int) ∧ (at_ p.l i).tag = tag) ?_ ?_
  rotate_left
  · intro K hK
    refine Exists.intro p.A (Exists.intro p.l.length (Exists.intro p.c (And.intro (cellB q.blk rfl) ?_)))
    refine if_p (fun hge => ?_) (fun hlt => ?_)
    · replace hge : (p.l.length : Int) ≤ i := hge
      have hb := q.blk
      refine And.intro ⟨_, cellB hb rfl⟩ (And.intro (fzB hb _) (force_ ?_))
      refine stK hb (show (2 : Nat) < 3 by decide) ?_
      intro w1 hb1 m1 s1
      obtain ⟨_, rfl, hres⟩ := bad (fun e => by omega) (q.set m1 hb1) (m1.mono fun _ _ e => .inr e)
      exact hres
    · replace hlt : ¬ (p.l.length : Int) ≤ i := hlt
      obtain ⟨a, ea, hok, hc⟩ := q.pl.at_ (i := i.toNat) (by omega)
      have e1 : at_ p.l ((i.toNat : Nat) : Int) = at_ p.l i := by rw [Int.toNat_of_nonneg hi]
      rw [e1] at hc
      refine Exists.intro p.A (Exists.intro p.l.length (Exists.intro p.c (And.intro (cellB q.blk rfl) ?_)))
      refine And.intro hi (And.intro (by omega) ?_)
      refine some_at ea ?_
      refine Exists.intro (at_ p.l i).tag (And.intro (by have := hc 0 _ rfl; rw [add_zero_] at this ⊢; exact this) ?_)
      refine if_n (fun hne => ?_) (fun heq => ?_)
      · have hb := q.blk
        refine And.intro ⟨_, cellB hb rfl⟩ (And.intro (fzB hb _) (force_ ?_))
        refine stK hb (show (2 : Nat) < 3 by decide) ?_
        intro w1 hb1 m1 s1
        obtain ⟨_, rfl, hres⟩ := bad (fun e => hne e.2) (q.set m1 hb1) (m1.mono fun _ _ e => .inr e)
        exact hres
      · exact hK () _ _ ⟨rfl, rfl, rfl, trivial⟩ ⟨rfl, by omega, heq⟩
  rintro _ wy fry ⟨hwy, hlt, htag⟩
  obtain rfl := hwy.symm
  have hB : ofB p.l i tag = false := by unfold ofB; rw [decide_eq_true ⟨hlt, htag⟩]; rfl
  have hT : ofT p.l i tag = if tag = 7 then (at_ p.l (at_ p.l i).a).text else (at_ p.l i).text := if_pos ⟨hlt, htag⟩
  rw [hB, hT, Bool.or_false]
  have fin : ∀ j : Int, 0 ≤ j → j < (p.l.length : Int) → ∃ a, p.A = some a ∧ ∀ k u, (entC (at_ p.l j))[k]? = some u → w.cell? ((a.add (j.toNat * 5)).add k) = some u := fun j h0 h1 => by
    obtain ⟨a, ea, hok, hc⟩ := q.pl.at_ (i := j.toNat) (by omega)
    have e1 : at_ p.l ((j.toNat : Nat) : Int) = at_ p.l j := by rw [Int.toNat_of_nonneg h0]
    rw [e1] at hc
    exact ⟨a, ea, hc⟩
  obtain ⟨a1, ea1, hc1⟩ := fin i hi hlt
  rcases ht with rfl | rfl
  · rw [if_neg (by decide)]
    refine Exists.intro p.A (Exists.intro p.l.length (Exists.intro p.c (And.intro (cellB q.blk rfl) ?_)))
    refine And.intro hi (And.intro hlt ?_)
    refine some_at ea1 ?_
    refine Exists.intro (⟨(at_ p.l i).text.toArray⟩ : ByteArray) (And.intro (hc1 1 _ rfl) ?_)
    exact ⟨rfl, q, (New.refl w).mod⟩
  · rw [if_pos rfl]
    have hin := class_in hO i.toNat (by omega) (by
      have e := Pool.at_lt (l := p.l) (i := i.toNat) (by omega)
      rw [Int.toNat_of_nonneg hi] at e
      rw [← e]
      exact htag)
    have e2 : p.l[i.toNat]'(by omega) = at_ p.l i := by
      have e := Pool.at_lt (l := p.l) (i := i.toNat) (by omega)
      rw [Int.toNat_of_nonneg hi] at e
      exact e.symm
    rw [e2] at hin
    obtain ⟨a2, ea2, hc2⟩ := fin (at_ p.l i).a hin.1 hin.2
    refine Exists.intro p.A (Exists.intro p.l.length (Exists.intro p.c (And.intro (cellB q.blk rfl) ?_)))
    refine And.intro hi (And.intro hlt ?_)
    refine some_at ea1 ?_
    refine Exists.intro (at_ p.l i).a (And.intro (hc1 3 _ rfl) ?_)
    refine Exists.intro p.A (Exists.intro p.l.length (Exists.intro p.c (And.intro (cellB q.blk rfl) ?_)))
    refine And.intro hin.1 (And.intro hin.2 ?_)
    refine some_at ea2 ?_
    refine Exists.intro (⟨(at_ p.l (at_ p.l i).a).text.toArray⟩ : ByteArray) (And.intro (hc2 1 _ rfl) ?_)
    exact ⟨rfl, q, (New.refl w).mod⟩
theorem rd_utf {bs : List UInt8} {s s1 : RSt} {l : List Ent} {n : Int} (h : Rd Class.n2 bs s n s1) : Rd (utfT l) bs s (ofT l n 1) (s1.1, s1.2 || ofB l n 1) := by
  refine Rd.ref h fun t h0 h1 hp => ?_
  simp only [utfP, Bool.and_eq_true, decide_eq_true_eq] at hp
  have hc : n < (l.length : Int) ∧ (at_ l n).tag = 1 := ⟨by omega, hp.1⟩
  unfold ofT ofB
  rw [if_pos hc, decide_eq_true hc, if_neg (by decide)]
  exact ⟨hp.2, by simp⟩
theorem rd_cls {bs : List UInt8} {s s1 : RSt} {l : List Ent} {n : Int} (h : Rd Class.n2 bs s n s1) : Rd (clsT l) bs s (ofT l n 7) (s1.1, s1.2 || ofB l n 7) := by
  refine Rd.ref h fun t h0 h1 hp => ?_
  simp only [clsP, Bool.and_eq_true, decide_eq_true_eq] at hp
  have hc : n < (l.length : Int) ∧ (at_ l n).tag = 7 := ⟨by omega, hp.1⟩
  unfold ofT ofB
  rw [if_pos hc, decide_eq_true hc, if_pos rfl]
  exact ⟨hp.2, by simp⟩
theorem rtext_ok (h g : Nat) (A : Option Addr) (c : Nat) (bs : List UInt8) (p : Po) (s : RSt) (w : World) (q : Ir w h g A c bs p s) (hO : OkPool p.l) :
    Calls Tryd.prog 64 #[.pointer (some ⟨h, 0, none⟩)] w fun e w' => ∃ z s', e = .returned (strV z) ∧ Rd (utfT p.l) bs s z s' ∧ On s s' ∧ Ir w' h g A c bs p s' ∧ Mod (RS h g) w w' := by
  refine enter ok Tryd.func64 rfl rfl rfl ?_
  refine seq_assign ?_
  refine call_ (u_ok h g A c bs p s 2 Pool.w2 w q) ?_
  rintro e w1 ⟨n, s1, rfl, r1, hb, o1, q1, m1⟩
  refine ⟨_, rfl, ?_⟩
  refine call_ (of_ok h g A c bs p s1 n 1 w1 q1 hO hb.1 (.inl rfl)) ?_
  rintro e w2 ⟨rfl, q2, m2⟩
  refine ⟨_, rfl, ?_⟩
  exact ⟨_, _, rfl, rd_utf r1, o1.or _, q2, both m1 m2⟩

end Go.Proofs.YtdcaafldnbcdkaaDoor.Class

/-! ### KWrite2 -/
namespace Go.Proofs.YtdcaafldnbcdkaaDoor.Class
open Go Go.Proofs.YtdcaafldnbcdkaaDoor Go.Proofs.YtdcaafldnbcdkaaDoor.Eng Go.Proofs Go.Proofs.YtdcaafldnbcdkaaDoor.Word Go.Proofs.YtdcaafldnbcdkaaDoor.Fmt
open Go.Proofs.YtdcaafldnbcdkaaDoor.Pool (Ent at_ poolF strV entC entV EntOk Pl OkPool both own_low tagAt)
set_option maxRecDepth 10000

theorem Ki.lrep {α : Type} {R : RepT α} {sz : Nat} {w w' : World} {base h g : Nat} {p : Po} {v v' vl : Value} {t : WT} {xs : List α} (k : Ki w base p h g v w' v' t) (hR : RepOk R sz) (hsz : 0 < sz) (hl : LRep R w (WH h g v) vl xs) : LRep R w' (WH h g v') vl xs := by
  have h1 := LRep.weak (S' := fun b => WH h g v b ∨ w.heap.size ≤ b) hR hl fun b hb e => e.resolve_right (by omega)
  refine LRep.weak hR (LRep.mod hR hsz h1 (k.mod.mono fun _ _ e => .inl e)) fun b _ e => ?_
  rcases e with (e | e) | e
  · exact .inl (.inl (.inl e))
  · rcases k.st b e.symm with e1 | e1
    · exact .inl (.inl (.inr e1.symm))
    · exact .inr e1
  · exact .inl (.inr e)
theorem Ki.rep {α : Type} {R : RepT α} {sz : Nat} {w w' : World} {base h g : Nat} {p : Po} {v v' : Value} {t : WT} {cs : List Value} {x : α} (k : Ki w base p h g v w' v' t) (hR : RepOk R sz) (hl : R w (WH h g v) cs x) : R w' (WH h g v') cs x := by
  have h1 := hR.weak (S' := fun b => WH h g v b ∨ w.heap.size ≤ b) hl fun b hb e => e.resolve_right (by omega)
  refine hR.weak (hR.mod h1 (k.mod.mono fun _ _ e => .inl e)) fun b _ e => ?_
  rcases e with (e | e) | e
  · exact .inl (.inl (.inl e))
  · rcases k.st b e.symm with e1 | e1
    · exact .inl (.inl (.inr e1.symm))
    · exact .inr e1
  · exact .inl (.inr e)
/-- What is done elsewhere, in new blocks. -/
theorem Ki.low {S : Nat → Prop} {w w1 w2 : World} {base h g : Nat} {p : Po} {v v' : Value} {t : WT} (k : Ki w base p h g v w1 v' t) (m : Mod S w1 w2) (hS : ∀ b, S b → w.heap.size ≤ b ∧ ¬ WH h g v' b) (hw : base ≤ w.heap.size) : Ki w base p h g v w2 v' t := by
  refine ⟨⟨m.blk k.wi.blk fun e => (hS _ e).2 (.inr rfl), wr_mod k.wi.wr m (fun e => (hS _ e).2 (.inl (.inl rfl))) (fun b hb e => (hS _ e).2 (.inl (.inr hb.symm))), k.wi.ne, k.wi.off, k.wi.bh, k.wi.bg, k.wi.cx.mod m fun b _ e => Nat.le_trans hw (hS b e).1⟩, Mod.trans k.mod m fun b hb e => ?_, k.st⟩
  have := (hS b e).1
  omega
theorem Cx.kind {w : World} {base : Nat} {p : Po} {k : Int} (c : Cx w base p) (h0 : 0 ≤ k) (h5 : k < 5) : w.cell? ((⟨0, 0, none⟩ : Addr).add (k.toNat * 1)) = some (zi (kindNo k)) := by
  have := c.tbl k h0 h5
  rw [Nat.mul_one]
  have e : ((⟨0, 0, none⟩ : Addr).add k.toNat) = ⟨0, k.toNat, none⟩ := by
    simp [Addr.add]
    omega
  rw [e]
  exact this
theorem incN {i n : Nat} (h : i < n) (hn : n ≤ 140737488355328) : Value.int .i64 (IntKind.i64.wrap ((i : Int) + 1)) = .int .i64 ((i + 1 : Nat) : Int) := by
  rw [wrap_i64 (by omega) (by omega)]
  rfl
def okTy (x : Ty) : Prop := 0 ≤ x.kind ∧ x.kind < 5 ∧ (x.kind = 4 ∨ x.name = [])
theorem okTy_of {l : List Ent} {x : Ty} (h : (tyT l).ok x) : okTy x := by
  obtain ⟨_, ⟨hk, _⟩, hn⟩ := h
  refine ⟨hk.1, hk.2, ?_⟩
  by_cases h4 : x.kind = 4
  · exact .inl h4
  · right
    dsimp only at hn
    rw [if_neg h4] at hn
    exact hn
theorem nil_str (s : List UInt8) : decide ((⟨s.toArray⟩ : ByteArray) = ⟨#[]⟩) = decide (s = []) := Base.same_iff s []
theorem kind_ok (p : Po) (base : Nat) (h g : Nat) (v : Value) (t : WT) (cs : List Value) (x : Ty) (w : World) (c : Wi w base p h g v t) (hO : OkPool p.l) (hx : tyR w (WH h g v) cs x) (hm : t.1.length + cTy x ≤ 1000000000) :
    Calls Tryd.prog 109 #[.pointer (some ⟨h, 0, none⟩), .agg cs.toArray] w fun e w' => e = .returned (.tuple #[]) ∧ ∃ v' t', Ki w base p h g v w' v' t' ∧ Wri (tyT p.l) (cTy x) t x t' := by
  obtain rfl := hx
  unfold cTy at hm
  refine enter ok Tryd.func109 rfl rfl rfl ?_
  refine seq_cut (σ := Unit) (fun _ => [(0, .pointer (some ⟨h, 0, none⟩)), (3, .pointer (some ⟨w.heap.size, 0, none⟩))]) (fun _ w' => New w w' ∧ w'.heap[w.heap.size]? = some (.cells #[zi x.kind, strV x.name] 51 (0, 0))) ?_ ?_
  rotate_left
  · intro K hK
    exact hK () _ _ ⟨rfl, rfl, trivial⟩ ⟨New.alloc w _, heap_alloc_new w (.cells #[zi x.kind, strV x.name] 51)⟩
  rintro _ w1 fr1 ⟨n1, hX⟩
  have c1 := c.new n1
  have hXl : w.heap.size < w1.heap.size := (Array.getElem?_eq_some_iff.1 hX).1
  have hXn := c.hi (Nat.le_refl w.heap.size)
  refine seq_cut (σ := Bool) (fun _ => [(0, .pointer (some ⟨h, 0, none⟩)), (3, .pointer (some ⟨w.heap.size, 0, none⟩))]) (fun b w' => Ki w1 base p h g v w' v (t.1, t.2 || !b) ∧ (b = true ↔ okTy x)) ?_ ?_
  rotate_left
  · intro K hK
    have fin : ∀ b : Bool, (b = true ↔ okTy x) → ∀ K' : Value → World → Prop, (∀ w', Ki w1 base p h g v w' v (t.1, t.2 || !b) → K' (.tuple #[]) w') → callQ Tryd.prog 41 [.pointer (some ⟨h, 0, none⟩), .bool b] w1 K' := fun b hb K' hK' => by
      refine call_ (must_ok base p h g v t b w1 c1) ?_
      rintro e w2 ⟨rfl, k2⟩
      exact ⟨_, rfl, hK' w2 k2⟩
    refine Exists.intro x.kind (And.intro (cellB hX rfl) ?_)
    refine if_p (fun h0 => ?_) (fun h0 => ?_)
    · replace h0 : (0 : Int) ≤ x.kind := h0
      refine Exists.intro x.kind (And.intro (cellB hX rfl) ?_)
      refine if_p (fun h5 => ?_) (fun h5 => ?_)
      · replace h5 : x.kind < 5 := h5
        refine Exists.intro x.kind (And.intro (cellB hX rfl) ?_)
        refine if_p (fun h4 => ?_) (fun h4 => ?_)
        · replace h4 : x.kind = 4 := h4
          exact fin true ⟨fun _ => ⟨h0, h5, .inl h4⟩, fun _ => rfl⟩ _ fun w' k' => hK true _ _ ⟨rfl, rfl, trivial⟩ ⟨k', ⟨fun _ => ⟨h0, h5, .inl h4⟩, fun _ => rfl⟩⟩
        · replace h4 : ¬ x.kind = 4 := h4
          refine Exists.intro (⟨x.name.toArray⟩ : ByteArray) (And.intro (cellB hX rfl) ?_)
          have hb : decide ((⟨x.name.toArray⟩ : ByteArray) = ⟨#[]⟩) = true ↔ okTy x := by
            rw [nil_str, decide_eq_true_eq]
            exact ⟨fun e => ⟨h0, h5, .inr e⟩, fun e => e.2.2.resolve_left h4⟩
          exact fin _ hb _ fun w' k' => hK _ _ _ ⟨rfl, rfl, trivial⟩ ⟨k', hb⟩
      · replace h5 : ¬ x.kind < 5 := h5
        have hb : false = true ↔ okTy x := ⟨fun e => (by cases e), fun e => absurd e.2.1 h5⟩
        exact fin false hb _ fun w' k' => hK false _ _ ⟨rfl, rfl, trivial⟩ ⟨k', hb⟩
    · replace h0 : ¬ (0 : Int) ≤ x.kind := h0
      have hb : false = true ↔ okTy x := ⟨fun e => (by cases e), fun e => absurd e.1 h0⟩
      exact fin false hb _ fun w' k' => hK false _ _ ⟨rfl, rfl, trivial⟩ ⟨k', hb⟩
  rintro b w2 fr2 ⟨k2, hb⟩
  have hX2 := k2.blk hX hXn
  refine seq_cut (σ := Unit) (fun _ => [(0, .pointer (some ⟨h, 0, none⟩)), (3, .pointer (some ⟨w.heap.size, 0, none⟩))]) (fun _ w' => w' = w2 ∧ (t.2 || !b) = false) ?_ ?_
  rotate_left
  · intro K hK
    refine Exists.intro (t.2 || !b) (And.intro (cellB k2.wi.blk rfl) ?_)
    refine if_ (fun hbad => ?_) (fun hbad => ?_)
    · refine ⟨rfl, v, _, ((Ki.refl c).new n1).then k2, ?_⟩
      exact Wri.pre (b := b) (Wri.bad hbad _ _) fun o => hb.2 (okTy_of o)
    · exact hK () _ _ ⟨rfl, rfl, trivial⟩ ⟨rfl, hbad⟩
  rintro _ wy fry ⟨hwy, hgood⟩
  obtain rfl := hwy.symm
  have hP : okTy x := hb.1 (by
    rw [Bool.or_eq_false_iff] at hgood
    have := hgood.2
    revert this
    cases b <;> decide)
  obtain ⟨h0, h5, hn⟩ := hP
  have hg1 := kindNo_good h0 h5
  refine seq_cut (σ := Value) (fun _ => [(0, .pointer (some ⟨h, 0, none⟩)), (3, .pointer (some ⟨w.heap.size, 0, none⟩))]) (fun v' w' => Ki w2 base p h g v w' v' (noteU (t.1, t.2 || !b) 1 [kindNo x.kind]) ∧ w'.heap[w.heap.size]? = some (.cells #[zi x.kind, strV x.name] 51 (0, 0))) ?_ ?_
  rotate_left
  · intro K hK
    refine draw_ (w := w2) ok (.q 0 (.q 1 (.q 2 (.q 3 (.q 4 (.q 5 (.q 6 (.q 7 (.e 8 (.e 9 .done)))))))))) [9] (New w2) (by kernel_rfl) (by kernel_rfl) (by kernel_rfl) (by kernel_rfl) (by kernel_rfl) (New.drew _) ?_
    refine Exists.intro (some ⟨g, 0, none⟩) (And.intro (fun w'' hw => cellB (hw.blk k2.wi.blk) rfl) ?_)
    refine Exists.intro x.kind (And.intro (fun w'' hw => cellB (hw.blk hX2) rfl) ?_)
    refine And.intro h0 (And.intro h5 ?_)
    refine Exists.intro (kindNo x.kind) (And.intro (fun w'' hw => hw.cell (k2.wi.cx.kind h0 h5)) ?_)
    have nd := New.drew w2
    refine eff_build (xs := [zi (kindNo x.kind)]) rfl rfl rfl rfl rfl rfl rfl rfl rfl ?_
    refine Exists.intro (New w2) ?_
    refine And.intro (fun _ h => h) ?_
    refine And.intro (nd.trans (New.alloc _ _)) ?_
    refine call_ (WUn base p h g v (t.1, t.2 || !b) 1 (kindNo x.kind) w2.drew (k2.wi.new nd) (by dsimp only; omega)) ?_
    rintro e w3 ⟨rfl, v3, k3⟩
    refine ⟨_, rfl, ?_⟩
    have kk := ((Ki.refl k2.wi).new nd).then k3
    rw [← noteU_good hg1] at kk
    exact hK v3 _ _ ⟨rfl, rfl, trivial⟩ ⟨kk, kk.blk hX2 (k2.hid hXl hXn)⟩
  rintro v3 w3 fr3 ⟨k3, hX3⟩
  have kk3 := (((Ki.refl c).new n1).then k2).then k3
  have w1k : Wri kindT 1 (t.1, t.2 || !b) x.kind (noteU (t.1, t.2 || !b) 1 [kindNo x.kind]) := Wri.by (p := true) Wri.n1 (by simp) (by simp only [true_iff]; exact ⟨h0, h5⟩)
  have hl3 := w1k.1
  have pre : ∀ {t' : WT} {d : Nat}, d ≤ 3 → Wri (dseqT kindT fun k => if k = 4 then clsT p.l else nilT) d (t.1, t.2 || !b) (x.kind, x.name) t' → Wri (tyT p.l) (cTy x) t x t' := fun hd q =>
    Wri.pre (b := b) (Wri.by_ (Wri.le q hd)) fun o => hb.2 (okTy_of o)
  refine Exists.intro x.kind (And.intro (cellB hX3 rfl) ?_)
  refine if_p (fun h4 => ?_) (fun h4 => ?_)
  · replace h4 : x.kind = 4 := h4
    refine Exists.intro (⟨x.name.toArray⟩ : ByteArray) (And.intro (cellB hX3 rfl) ?_)
    refine call_ (wclass_ok p base h g v3 _ x.name w3 k3.wi hO (by dsimp only at hl3; omega)) ?_
    rintro e w4 ⟨rfl, v4, t4, k4, wr4⟩
    refine ⟨_, rfl, ?_⟩
    exact ⟨rfl, v4, t4, kk3.then k4, pre (d := 1 + 2) (by omega) (Wri.dseq w1k (by rw [if_pos h4]; exact wr4))⟩
  · replace h4 : ¬ x.kind = 4 := h4
    exact ⟨rfl, v3, _, kk3, pre (d := 1 + 0) (by omega) (Wri.dseq w1k (by rw [if_neg h4]; exact Wri.nil (hn.resolve_left h4)))⟩
theorem list_ty (p : Po) (base : Nat) (h g : Nat) (v : Value) (t : WT) (vl : Value) (xs : List Ty)   (w : World) (c : Wi w base p h g v t) (hO : OkPool p.l) (hl : LRep tyR w (WH h g v) vl xs)   (hm : t.1.length + (2 + csum cTy xs) ≤ 1000000000) :
    Calls Tryd.prog 107 #[.pointer (some ⟨h, 0, none⟩), vl, zi 64, .func (.func 109) #[.pointer (some ⟨h, 0, none⟩)] #[]] w fun e w' => e = .returned (.tuple #[]) ∧ ∃ v' t', Ki w base p h g v w' v' t' ∧ Wri (stkT p.l) (2 + csum cTy xs) t xs t' := by
  obtain ⟨Al, cl, rfl, h43, _⟩ := hl.get tyOk (by decide)
  refine enter ok Tryd.func107 rfl rfl rfl ?_
  refine seq_cut (σ := Unit) (fun _ => [(0, .pointer (some ⟨h, 0, none⟩)), (1, .slice Al xs.length cl), (3, .func (.func 109) #[.pointer (some ⟨h, 0, none⟩)] #[])]) (fun _ w' => Ki w base p h g v w' v (t.1, t.2 || !decide (xs.length ≤ 64))) ?_ ?_
  rotate_left
  · intro K hK
    refine call_ (must_ok base p h g v t (decide ((xs.length : Int) ≤ 64)) w c) ?_
    rintro e w1 ⟨rfl, k1⟩
    refine ⟨_, rfl, ?_⟩
    have e1 : decide ((xs.length : Int) ≤ 64) = decide (xs.length ≤ 64) := decide_eq_decide.2 (by omega)
    rw [e1] at k1
    exact hK () _ _ ⟨rfl, rfl, rfl, trivial⟩ k1
  rintro _ w1 fr1 k1
  refine seq_cut (σ := Value × WT) (fun _ => [(0, .pointer (some ⟨h, 0, none⟩)), (1, .slice Al xs.length cl), (3, .func (.func 109) #[.pointer (some ⟨h, 0, none⟩)] #[])]) (fun s w' => Ki w base p h g v w' s.1 s.2 ∧ Wri n2 2 (t.1, t.2 || !decide (xs.length ≤ 64)) (xs.length : Int) s.2) ?_ ?_
  rotate_left
  · intro K hK
    refine Exists.intro (t.2 || !decide (xs.length ≤ 64)) (And.intro (cellB k1.wi.blk rfl) ?_)
    cases hbad : (t.2 || !decide (xs.length ≤ 64)) with
    | true =>
      rw [hbad] at k1 hK
      exact hK (v, (t.1, true)) _ _ ⟨rfl, rfl, rfl, trivial⟩ ⟨k1, Wri.bad rfl _ _⟩
    | false =>
      rw [hbad] at k1 hK
      refine call_ (two1_ok base p h g v (t.1, false) [(xs.length : Int)] 1 w1 k1.wi rfl (by simp; omega)) ?_
      rintro e w2 ⟨rfl, v2, k2⟩
      refine ⟨_, rfl, ?_⟩
      exact hK (v2, _) _ _ ⟨rfl, rfl, rfl, trivial⟩ ⟨k1.then k2, Wri.n2⟩
  rintro ⟨v2, t2⟩ w2 fr2 ⟨k2, wr2⟩
  dsimp only at k2 wr2
  refine seq_cut (σ := Unit) (fun _ => [(0, .pointer (some ⟨h, 0, none⟩)), (3, .func (.func 109) #[.pointer (some ⟨h, 0, none⟩)] #[]), (26, .slice Al xs.length cl), (27, zi (xs.length : Int)), (28, zi 0)]) (fun _ w' => w' = w2) ?_ ?_
  rotate_left
  · intro K hK
    exact hK () _ _ ⟨rfl, rfl, rfl, rfl, rfl, trivial⟩ rfl
  rintro _ wy fry hwy
  obtain rfl := hwy.symm
  refine den_loop (σ := Nat × Value × WT) (fun s => [(0, .pointer (some ⟨h, 0, none⟩)), (3, .func (.func 109) #[.pointer (some ⟨h, 0, none⟩)] #[]), (26, .slice Al xs.length cl), (27, zi (xs.length : Int)), (28, zi (s.1 : Int))])
    (fun m s wl => m + s.1 = xs.length ∧ Ki w base p h g v wl s.2.1 s.2.2 ∧ WLst (tyT p.l) 64 cTy t xs s.1 s.2.2) xs.length (0, v2, t2) ⟨rfl, rfl, rfl, rfl, rfl, trivial⟩ ⟨rfl, k2, WLst.start (by decide) wr2⟩ ?_
  rintro m ⟨i, v3, t3⟩ wl frl ⟨hfuel, kl, hw⟩
  dsimp only at hfuel kl hw
  refine if_p (fun hlt => ?_) (fun hge => ?_)
  · replace hlt : (i : Int) < (xs.length : Int) := hlt
    have hi : i < xs.length := by omega
    obtain ⟨m, rfl⟩ : ∃ m', m = m' + 1 := ⟨m - 1, by omega⟩
    have inc := incN hi h43
    obtain ⟨Al', cl', he, _, gx⟩ := (kl.lrep tyOk (by decide) hl).get tyOk (by decide)
    cases he
    obtain ⟨a, cs, ea, hx, hc⟩ := gx i hi
    have hcs : csum cTy (xs.take i) + cTy xs[i] ≤ csum cTy xs := by
      have h1 := csum_le cTy xs (i + 1)
      rw [List.take_succ_eq_append_getElem hi, csum_snoc] at h1
      exact h1
    have hw1 := hw.1
    have hmem : xs[i] ∈ xs := List.getElem_mem hi
    obtain ⟨y, hy⟩ : ∃ y, y = xs[i] := ⟨_, rfl⟩
    rw [← hy] at hx hcs hmem
    have hx0 := hx
    obtain rfl := hx
    refine And.intro (by omega) (And.intro hlt ?_)
    refine some_at ea ?_
    refine loadN_row (vs := [zi y.kind, strV y.name]) (fun j u hu => by rw [Int.toNat_natCast]; exact hc j u hu) rfl ?_
    refine And.intro rfl ?_
    refine storeNew (vs := [zi y.kind, strV y.name]) (arr := #[zi 0, .string ⟨#[]⟩]) rfl (tyOk.one hx0) ?_
    intro w5 hb5 n5 s5
    have k5 := kl.new n5
    refine Exists.intro t3.2 (And.intro (cellB k5.wi.blk rfl) ?_)
    refine if_ (fun hbad => ?_) (fun hbad => ?_)
    · exact ⟨rfl, v3, t3, k5, hw.stop hbad⟩
    refine skip_ (thenF_ ?_)
    refine loadN_row (vs := [zi y.kind, strV y.name]) (rowB hb5) rfl ?_
    refine call_ (kind_ok p base h g v3 t3 [zi y.kind, strV y.name] y w5 k5.wi hO (tyOk.mod hx0 n5.mod) (by omega)) ?_
    rintro e w6 ⟨rfl, v6, t6, k6, wr6⟩
    refine ⟨_, rfl, ?_⟩
    exact ⟨m, (i + 1, v6, t6), by omega, ⟨rfl, rfl, rfl, rfl, inc, trivial⟩, by dsimp only; omega, k5.then k6, hw.step hi (by rw [← hy]; exact wr6)⟩
  · replace hge : ¬ (i : Int) < (xs.length : Int) := hge
    obtain rfl : i = xs.length := by omega
    exact ⟨rfl, v3, t3, kl, hw.done⟩

theorem tyEq (x y : Ty) : decide (x = y) = (decide (x.kind = y.kind) && (decide ((⟨x.name.toArray⟩ : ByteArray) = (⟨y.name.toArray⟩ : ByteArray)) && true)) := by
  rw [Base.same_iff, Bool.and_true, ← Bool.decide_and]
  refine decide_eq_decide.2 ⟨fun h => by rw [h]; exact ⟨rfl, rfl⟩, fun h => ?_⟩
  cases x; cases y
  simp only at h
  rw [h.1, h.2]
theorem ty_eql {o : Oper} {x y : Operand} {u : TypeId} {fr : Fr} {a b : Ty} {w : World} {K : Fr → World → Prop} (ho : o.op = .binOp .eql 51 x y u) (hx : ev fr x = .agg #[zi a.kind, strV a.name]) (hy : ev fr y = .agg #[zi b.kind, strV b.name]) (k : K (putF fr o.dst (.bool (decide (a = b)))) w) : raw Tryd.prog o fr w K :=
  raw_value (agg_cmp ok ho rfl rfl (by kernel_rfl) (by kernel_rfl) hx hy rfl (decide (a = b)) (.inl ⟨rfl, tyEq a b⟩) w) k
theorem locals_ok (p : Po) (base : Nat) (h g : Nat) (v : Value) (t : WT) (vl : Value) (xs : List Ty) (w : World) (c : Wi w base p h g v t) (hl : LRep tyR w (WH h g v) vl xs) (hn : xs.length ≤ 1000000000) :
    Calls Tryd.prog 108 #[.pointer (some ⟨h, 0, none⟩), vl] w fun e w' => ∃ u b, e = .returned u ∧ LRep tyR w' (WH h g v) u (locOut false xs) ∧ Ki w base p h g v w' v (t.1, t.2 || !b) ∧ (b = true ↔ xs.length ≤ 64 ∧ locOk false xs) := by
  obtain ⟨Al, cl, rfl, h43, _⟩ := hl.get tyOk (by decide)
  refine enter ok Tryd.func108 rfl rfl rfl ?_
  refine seq_assign ?_
  refine seq_cut (σ := Unit) (fun _ => [(0, .pointer (some ⟨h, 0, none⟩)), (1, .slice Al xs.length cl)]) (fun _ w' => Ki w base p h g v w' v (t.1, t.2 || !decide (xs.length ≤ 64))) ?_ ?_
  rotate_left
  · intro K hK
    refine call_ (must_ok base p h g v t (decide ((xs.length : Int) ≤ 64)) w c) ?_
    rintro e w1 ⟨rfl, k1⟩
    refine ⟨_, rfl, ?_⟩
    have e1 : decide ((xs.length : Int) ≤ 64) = decide (xs.length ≤ 64) := decide_eq_decide.2 (by omega)
    rw [e1] at k1
    exact hK () _ _ ⟨rfl, rfl, trivial⟩ k1
  rintro _ w1 fr1 k1
  refine seq_assign ?_
  have hbase := c.bw
  have hlw := c.lt
  have own0 : ∀ w' : World, w'.ownsRow w.heap.size 51 2 (.slice none 0 0) 0 [] := fun _ => ⟨rfl, .inl ⟨rfl, rfl⟩⟩
  refine seq_cut (σ := (Option Addr × Nat) × List Ty) (fun s => [(5, .slice s.1.1 s.2.length s.1.2)]) (fun s w' => ∃ b, Ki w base p h g v w' v (t.1, t.2 || !b) ∧ s.2 = locOut false xs ∧ (b = true ↔ xs.length ≤ 64 ∧ locOk false xs) ∧ w'.ownsRow w.heap.size 51 2 (.slice s.1.1 s.2.length s.1.2) s.2.length (cellsOf (s.2.map fun y => ([zi y.kind, strV y.name], y)))) ?_ ?_
  rotate_left
  · intro K hK
    refine seq_assign ?_
    refine den_loop (σ := Nat × (Option Addr × Nat) × List Ty × Bool) (fun s => [(0, .pointer (some ⟨h, 0, none⟩)), (1, .slice Al xs.length cl), (5, .slice s.2.1.1 s.2.2.1.length s.2.1.2), (6, zi (s.1 : Int))])
      (fun m s wl => xs.length ≤ m + s.1 ∧ s.1 ≤ xs.length + 1 ∧ Ki w base p h g v wl v (t.1, t.2 || !s.2.2.2) ∧ s.2.2.1 ++ locOut false (xs.drop s.1) = locOut false xs ∧ s.2.2.1.length ≤ s.1 ∧ ((s.2.2.2 = true ∧ locOk false (xs.drop s.1)) ↔ (xs.length ≤ 64 ∧ locOk false xs)) ∧ wl.ownsRow w.heap.size 51 2 (.slice s.2.1.1 s.2.2.1.length s.2.1.2) s.2.2.1.length (cellsOf (s.2.2.1.map fun y => ([zi y.kind, strV y.name], y)))) xs.length
      (0, (none, 0), [], decide (xs.length ≤ 64)) ⟨rfl, rfl, rfl, rfl, trivial⟩ ⟨by dsimp only; omega, by dsimp only; omega, k1, rfl, Nat.le_refl _, by simp, own0 _⟩ ?_
    rintro m ⟨i, ⟨Ao, co⟩, os, b⟩ wl frl ⟨hfuel, hi1, kl, hos, hol, hb, own⟩
    dsimp only at hfuel hi1 kl hos hol hb own
    refine seq_cut (σ := Unit) (fun _ => [(0, .pointer (some ⟨h, 0, none⟩)), (1, .slice Al xs.length cl), (5, .slice Ao os.length co), (6, zi (i : Int))]) (fun _ w' => w' = wl ∧ i < xs.length) ?_ ?_
    rotate_left
    · intro K2 hK2
      refine if_p (fun hlt => ?_) (fun hge => ?_)
      · replace hlt : (i : Int) < (xs.length : Int) := hlt
        exact hK2 () _ _ ⟨rfl, rfl, rfl, rfl, trivial⟩ ⟨rfl, by omega⟩
      · replace hge : ¬ (i : Int) < (xs.length : Int) := hge
        have hd : xs.drop i = [] := List.drop_eq_nil_iff.2 (by omega)
        rw [hd] at hos hb
        refine hK ((Ao, co), os) _ _ ⟨rfl, trivial⟩ ⟨b, kl, ?_, ?_, own⟩
        · rw [← hos]
          exact (List.append_nil os).symm
        · rw [← hb]
          exact ⟨fun e => ⟨e, trivial⟩, fun e => e.1⟩
    rintro _ wy fry ⟨hwy, hi⟩
    obtain rfl := hwy.symm
    have hlt : (i : Int) < (xs.length : Int) := by omega
    obtain ⟨m, rfl⟩ : ∃ m', m = m' + 1 := ⟨m - 1, by omega⟩
    have ed : xs.drop i = xs[i] :: xs.drop (i + 1) := List.drop_eq_getElem_cons hi
    obtain ⟨_, _, he, _, gx⟩ := (kl.lrep tyOk (by decide) hl).get tyOk (by decide)
    cases he
    obtain ⟨a, cs, ea, hx, hc⟩ := gx i hi
    generalize hy : xs[i] = y at hx ed
    obtain rfl := hx
    rw [ed] at hos hb
    -- one more
    refine seq_cut (σ := Nat × (Option Addr × Nat) × Bool) (fun s => [(0, .pointer (some ⟨h, 0, none⟩)), (1, .slice Al xs.length cl), (5, .slice s.2.1.1 (os.length + 1) s.2.1.2), (6, zi (s.1 : Int))]) (fun s w' => Ki w base p h g v w' v (t.1, t.2 || !s.2.2) ∧ w'.ownsRow w.heap.size 51 2 (.slice s.2.1.1 (os.length + 1) s.2.1.2) (os.length + 1) (cellsOf (os.map fun y => ([zi y.kind, strV y.name], y)) ++ [zi y.kind, strV y.name]) ∧ i ≤ s.1 ∧ s.1 ≤ xs.length ∧ locOut (decide (y.kind = 2)) (xs.drop (i + 1)) = locOut false (xs.drop (s.1 + 1)) ∧ ((b = true ∧ locOk (decide (y.kind = 2)) (xs.drop (i + 1))) ↔ (s.2.2 = true ∧ locOk false (xs.drop (s.1 + 1))))) ?_ ?_
    · rintro ⟨j, ⟨A2, c2⟩, b2⟩ w2 fr2 ⟨k2, own2, hij, hjl, ho2, hb2⟩
      dsimp only at k2 own2 hij hjl ho2 hb2
      have hlen : (os ++ [y]).length = os.length + 1 := by simp
      have hinc : Value.int .i64 (IntKind.i64.wrap ((j : Int) + 1)) = .int .i64 ((j + 1 : Nat) : Int) := by
        rw [wrap_i64 (by omega) (by omega)]
        rfl
      refine ⟨m, (j + 1, (A2, c2), os ++ [y], b2), by omega, ⟨rfl, rfl, (show Value.slice A2 (os.length + 1) c2 = .slice A2 (os ++ [y]).length c2 by rw [hlen]), hinc, trivial⟩, by dsimp only; omega, by dsimp only; omega, k2, ?_, by rw [hlen]; dsimp only; omega, ?_, ?_⟩
      · dsimp only
        rw [← ho2, List.append_assoc]
        exact hos
      · dsimp only
        rw [← hb2]
        exact hb
      · dsimp only
        rw [hlen, List.map_append, List.map_cons, List.map_nil, cellsOf_snoc]
        exact own2
    intro K3 hK3
    refine block_ ?_
    refine seq_cut (σ := Option Addr × Nat) (fun s => [(0, .pointer (some ⟨h, 0, none⟩)), (1, .slice Al xs.length cl), (5, .slice s.1 (os.length + 1) s.2), (6, zi (i : Int))]) (fun s w' => Ki w base p h g v w' v (t.1, t.2 || !b) ∧ w'.ownsRow w.heap.size 51 2 (.slice s.1 (os.length + 1) s.2) (os.length + 1) (cellsOf (os.map fun y => ([zi y.kind, strV y.name], y)) ++ [zi y.kind, strV y.name])) ?_ ?_
    rotate_left
    · intro K4 hK4
      refine And.intro (by omega) (And.intro hlt ?_)
      refine some_at ea ?_
      refine loadN_row (vs := [zi y.kind, strV y.name]) (fun j u hu => by rw [Int.toNat_natCast]; exact hc j u hu) rfl ?_
      have n6 := New.alloc wl (.cells [zi y.kind, strV y.name].toArray 51)
      have hwl := kl.mod.size
      refine append2_ ok rfl rfl rfl rfl (own_new n6 own) rfl rfl (row_alloc wl [zi y.kind, strV y.name] _ _) rfl (tyOk.one (w := wl) (S := fun _ => False) (x := y) rfl) (by decide) rfl (by show (os.length + 1) * 24 ≤ _; omega) (by omega) (Nat.le_trans hwl n6.size) ?_
      intro A7 c7 w7 own7 mod7 st7
      have k6 := kl.new n6
      refine hK4 (A7, c7) _ _ ⟨rfl, rfl, rfl, rfl, trivial⟩ ⟨k6.low mod7 (fun q hq => ?_) hbase, own7⟩
      have h1 := (own.lt _ hq.symm).1
      exact ⟨h1, c.hi h1⟩
    rintro ⟨A2, c2⟩ w2 fr2 ⟨k2, own2⟩
    dsimp only at own2
    obtain ⟨_, _, he, _, gx2⟩ := (k2.lrep tyOk (by decide) hl).get tyOk (by decide)
    cases he
    obtain ⟨a2, cs2, ea2, hx2, hc2⟩ := gx2 i hi
    rw [hy] at hx2
    obtain rfl := hx2
    refine And.intro (by omega) (And.intro hlt ?_)
    refine some_at ea2 ?_
    refine Exists.intro y.kind (And.intro (by have := hc2 0 _ rfl; rw [add_zero_] at this; rw [Int.toNat_natCast]; exact this) ?_)
    refine if_p (fun hk => ?_) (fun hk => ?_)
    · replace hk : y.kind = 2 := hk
      rw [decide_eq_true hk] at hK3
      have hinc : IntKind.i64.wrap ((i : Int) + 1) = ((i + 1 : Nat) : Int) := by
        rw [wrap_i64 (by omega) (by omega)]
        rfl
      refine seq_cut (σ := Unit) (fun _ => [(0, .pointer (some ⟨h, 0, none⟩)), (1, .slice Al xs.length cl), (5, .slice A2 (os.length + 1) c2), (6, zi ((i + 1 : Nat) : Int))]) (fun _ w' => w' = w2) ?_ ?_
      rotate_left
      · intro K4 hK4
        exact hK4 () _ _ ⟨rfl, rfl, rfl, (show zi (IntKind.i64.wrap ((i : Int) + 1)) = _ by rw [hinc]), trivial⟩ rfl
      rintro _ wz frz hwz
      obtain rfl := hwz.symm
      refine if_p (fun hl2 => ?_) (fun hl2 => ?_)
      · replace hl2 : ((i + 1 : Nat) : Int) < (xs.length : Int) := hl2
        have hi2 : i + 1 < xs.length := by omega
        have ed2 : xs.drop (i + 1) = xs[i + 1] :: xs.drop (i + 1 + 1) := List.drop_eq_getElem_cons hi2
        obtain ⟨a3, cs3, ea3, hx3, hc3⟩ := gx2 (i + 1) hi2
        generalize xs[i + 1] = z at hx3 ed2
        obtain rfl := hx3
        refine And.intro (by omega) (And.intro hl2 ?_)
        refine some_at ea3 ?_
        refine loadN_row (vs := [zi z.kind, strV z.name]) (fun j u hu => by rw [Int.toNat_natCast]; exact hc3 j u hu) rfl ?_
        refine ty_eql (a := z) (b := ty0) rfl rfl rfl ?_
        refine call_ (must_ok base p h g v _ (decide (z = ty0)) w2 k2.wi) ?_
        rintro e w3 ⟨rfl, k3⟩
        refine ⟨_, rfl, ?_⟩
        have own3 := own_mod k3.mod own2 (fun q hq e => c.hi (own2.lt q hq).1 e)
        have k23 := k2.then k3
        dsimp only at k23
        have eb : ((t.2 || !b) || !decide (z = ty0)) = (t.2 || !(b && decide (z = ty0))) := by cases t.2 <;> cases b <;> cases decide (z = ty0) <;> rfl
        rw [eb] at k23
        refine hK3 (i + 1, (A2, c2), b && decide (z = ty0)) _ _ ⟨rfl, rfl, rfl, rfl, trivial⟩ ⟨k23, own3, by dsimp only; omega, by dsimp only; omega, ?_, ?_⟩
        · dsimp only
          rw [ed2]
          rfl
        · dsimp only
          rw [ed2]
          show (b = true ∧ (z = ty0 ∧ locOk false (xs.drop (i + 1 + 1)))) ↔ _
          rw [Bool.and_eq_true, decide_eq_true_eq, and_assoc]
      · replace hl2 : ¬ ((i + 1 : Nat) : Int) < (xs.length : Int) := hl2
        have hd2 : xs.drop (i + 1) = [] := List.drop_eq_nil_iff.2 (by omega)
        refine call_ (must_ok base p h g v _ false w2 k2.wi) ?_
        rintro e w3 ⟨rfl, k3⟩
        refine ⟨_, rfl, ?_⟩
        have own3 := own_mod k3.mod own2 (fun q hq e => c.hi (own2.lt q hq).1 e)
        have k23 := k2.then k3
        dsimp only at k23
        have eb : ((t.2 || !b) || !false) = (t.2 || !false) := by cases t.2 <;> cases b <;> rfl
        rw [eb] at k23
        refine hK3 (i + 1, (A2, c2), false) _ _ ⟨rfl, rfl, rfl, rfl, trivial⟩ ⟨k23, own3, by dsimp only; omega, by dsimp only; omega, ?_, ?_⟩
        · dsimp only
          rw [hd2, List.drop_eq_nil_iff.2 (by omega : xs.length ≤ i + 1 + 1)]
          rfl
        · dsimp only
          rw [hd2]
          exact ⟨fun e => e.2.elim, fun e => by cases e.1⟩
    · replace hk : ¬ y.kind = 2 := hk
      rw [decide_eq_false hk] at hK3
      exact hK3 (i, (A2, c2), b) _ _ ⟨rfl, rfl, rfl, rfl, trivial⟩ ⟨k2, own2, Nat.le_refl _, by dsimp only; omega, rfl, Iff.rfl⟩
  rintro ⟨⟨Ao, co⟩, os⟩ w2 fr2 ⟨b, k2, hos, hb, own2⟩
  dsimp only at hos own2
  subst hos
  refine ⟨_, b, rfl, ?_, k2, hb⟩
  have hlen := locOut_len false xs
  obtain ⟨_, _, he, hcap1, hcap2, row, hlow⟩ := own_slice own2
  cases he
  refine ⟨Ao, co, (locOut false xs).map fun y => ([zi y.kind, strV y.name], y), rfl, (by rw [List.map_map]; exact List.map_id _), hcap1, hcap2, by omega, row, fun a ha hn => ?_, fun q hq => ?_⟩
  · have h1 := own2.lt a.block (by subst ha; rfl)
    exact ⟨h1.2, c.hi h1.1⟩
  · obtain ⟨y, _, rfl⟩ := List.mem_map.1 hq
    rfl

end Go.Proofs.YtdcaafldnbcdkaaDoor.Class

/-! ### KRead2 -/
namespace Go.Proofs.YtdcaafldnbcdkaaDoor.Class
open Go Go.Proofs.YtdcaafldnbcdkaaDoor Go.Proofs.YtdcaafldnbcdkaaDoor.Eng Go.Proofs Go.Proofs.YtdcaafldnbcdkaaDoor.Word Go.Proofs.YtdcaafldnbcdkaaDoor.Fmt
open Go.Proofs.YtdcaafldnbcdkaaDoor.Pool (rd_modN rd_low RS Ent at_ poolF strV entC entV EntOk Pl OkPool both own_low tagAt)
set_option maxRecDepth 10000

theorem cut_run {P : Program} {T : Tab} {F : FuncId → Bool} (hT : TabOk P T F) {o : Oper} {t : TypeId} {x : Operand} {fr : Fr} {w : World} {ta te : TI} {N : Nat} {e : TypeId} {a : Addr} (ho : o.op = .slice t x none none none) (ht : T t = some ta) (hd : ta.desc = .array N e) (he : T e = some te) (hx : ev fr x = .pointer (some a)) (hN : 0 < N) :
    (execOp (ev fr) o).run P w = .ok (.value (.slice (some a) N N)) w := by
  have hu := hT.desc t ta ht
  rw [hd] at hu
  have hs := hT.size e te he w
  have h0 : ¬ N = 0 := by omega
  simp [execOp, ho, Instr.sliceAt, hx, run_underlying hu, Instr.sureAddr, Instr.sliceBounds, hs, h0, Addr.add]
def kindIx (v : Int) : Int := if v = 0 then 0 else if v = 1 then 1 else if v = 4 then 2 else if v = 5 then 3 else if v = 7 then 4 else -1
theorem kindIx_no {k : Int} (h : 0 ≤ k ∧ k < 5) : kindIx (kindNo k) = k := by
  have : k = 0 ∨ k = 1 ∨ k = 2 ∨ k = 3 ∨ k = 4 := by omega
  rcases this with rfl | rfl | rfl | rfl | rfl <;> rfl
theorem kindIx_none {v : Int} (h : ∀ j : Nat, j < 5 → ¬ v = kindNo j) : kindIx v = -1 := by
  have h0 : ¬ v = 0 := h 0 (by decide)
  have h1 : ¬ v = 1 := h 1 (by decide)
  have h2 : ¬ v = 4 := h 2 (by decide)
  have h3 : ¬ v = 5 := h 3 (by decide)
  have h4 : ¬ v = 7 := h 4 (by decide)
  unfold kindIx
  rw [if_neg h0, if_neg h1, if_neg h2, if_neg h3, if_neg h4]
theorem kindIx_bound (v : Int) : -1 ≤ kindIx v ∧ kindIx v ≤ 4 := by
  unfold kindIx
  repeat' split
  all_goals omega
theorem indexK_ok (v : Int) (w : World) (tbl : Kt w) :
    Calls Tryd.prog 115 #[.slice (some ⟨0, 0, none⟩) 5 5, zi v] w fun e w' => e = .returned (zi (kindIx v)) ∧ w' = w := by
  refine enter ok Tryd.func115 rfl rfl rfl ?_
  refine den_loop (σ := Nat) (fun i => [(0, .slice (some ⟨0, 0, none⟩) 5 5), (1, zi v), (7, zi ((5 : Nat) : Int)), (8, zi (i : Int))])
    (fun m i wl => m + i = 5 ∧ (∀ j : Nat, j < i → ¬ v = kindNo j) ∧ wl = w) 5 0 ⟨rfl, rfl, rfl, rfl, trivial⟩ ⟨rfl, fun j hj => (by omega), rfl⟩ ?_
  rintro m i wl fr0 ⟨hfuel, hno, rfl⟩
  obtain ⟨five, h5⟩ : ∃ n : Nat, n = 5 := ⟨_, rfl⟩
  refine if_p (fun hlt => ?_) (fun hge => ?_)
  · replace hlt : (i : Int) < ((5 : Nat) : Int) := hlt
    have hi : i < 5 := by omega
    obtain ⟨m, rfl⟩ : ∃ m', m = m' + 1 := ⟨m - 1, by omega⟩
    have inc : Value.int .i64 (IntKind.i64.wrap ((i : Int) + 1)) = .int .i64 ((i + 1 : Nat) : Int) := by
      rw [wrap_i64 (by omega) (by omega)]
      rfl
    refine And.intro (by omega) (And.intro hlt ?_)
    have hcell : wl.cell? ((⟨0, 0, none⟩ : Addr).add ((i : Int).toNat * 1)) = some (zi (kindNo (i : Int))) := by
      have h1 := tbl (i : Int) (by omega) (by omega)
      rw [Int.toNat_natCast] at h1 ⊢
      rw [Nat.mul_one]
      have e : ((⟨0, 0, none⟩ : Addr).add i) = ⟨0, i, none⟩ := by
        simp [Addr.add]
        omega
      rw [e]
      exact h1
    refine Exists.intro (kindNo (i : Int)) (And.intro hcell ?_)
    refine if_p (fun he => ?_) (fun hne => ?_)
    · replace he : v = kindNo (i : Int) := he
      rw [he, kindIx_no ⟨by omega, by omega⟩]
      exact ⟨rfl, rfl⟩
    · replace hne : ¬ v = kindNo (i : Int) := hne
      refine ⟨m, i + 1, by omega, ⟨rfl, rfl, rfl, inc, trivial⟩, by omega, fun j hj => ?_, rfl⟩
      rcases Nat.lt_or_ge j i with h1 | h1
      · exact hno j h1
      · have : j = i := by omega
        rw [this]
        exact hne
  · replace hge : ¬ (i : Int) < ((5 : Nat) : Int) := hge
    rw [kindIx_none (fun j hj => hno j (by omega))]
    exact ⟨rfl, rfl⟩
theorem rd_ty {bs : List UInt8} {s s' : RSt} {l : List Ent} {k : Int} {z : List UInt8} (h : Rd (dseqT kindT fun k => if k = 4 then clsT l else nilT) bs s (k, z) s') : Rd (tyT l) bs s ⟨k, z⟩ s' := Rd.by_ (f := fun x : Ty => (x.kind, x.name)) (y := ⟨k, z⟩) h
theorem rkind_ok (h g : Nat) (A : Option Addr) (c : Nat) (bs : List UInt8) (p : Po) (s : RSt) (w : World) (q : Ir w h g A c bs p s) (hO : OkPool p.l) :
    Calls Tryd.prog 97 #[.pointer (some ⟨h, 0, none⟩)] w fun e w' => ∃ cs x s', e = .returned (.agg (List.toArray cs)) ∧ tyR w' (fun b => b < w.heap.size) cs x ∧ Rd (tyT p.l) bs s x s' ∧ cTy x ≤ 0 * (s'.1 - s.1) + 3 ∧ On s s' ∧ Ir w' h g A c bs p s' ∧ Mod (RS h g) w w' := by
  refine enter ok Tryd.func97 rfl rfl rfl ?_
  obtain ⟨V, hV⟩ : ∃ V, V = w.heap.size := ⟨_, rfl⟩
  refine seq_cut (σ := Unit) (fun _ => [(0, .pointer (some ⟨h, 0, none⟩)), (2, .pointer (some ⟨V, 0, none⟩))]) (fun _ w' => New w w' ∧ w'.heap[V]? = some (.cells #[zi 0, .string ⟨#[]⟩] 51 (0, 0))) ?_ ?_
  rotate_left
  · intro K hK
    rw [hV] at hK
    exact hK () _ _ ⟨rfl, rfl, trivial⟩ ⟨New.alloc w _, heap_alloc_new w (.cells #[zi 0, .string ⟨#[]⟩] 51)⟩
  rintro _ w1 fr1 ⟨n1, hV1⟩
  have q1 := q.new n1
  have hVn : ∀ b, Iin h g A bs p b → b ≠ V := fun b hb e => by have := q.lt hb; omega
  have hVr : ¬ RS h g V := fun e => by
    rcases e with e | e
    · exact hVn _ (.inr (.inl rfl)) e.symm
    · exact hVn _ (.inl rfl) e.symm
  refine seq_cut (σ := Int) (fun k => [(0, .pointer (some ⟨h, 0, none⟩)), (2, .pointer (some ⟨V, 0, none⟩)), (3, zi (kindIx k))]) (fun n w' => ∃ s1, Rd Class.n1 bs s n s1 ∧ On s s1 ∧ Ir w' h g A c bs p s1 ∧ Mod (RS h g) w1 w') ?_ ?_
  rotate_left
  · intro K hK
    have nd := New.drew w1
    refine draw_ (w := w1) ok (.q 0 (.q 1 (.e 2 (.e 3 (.q 4 .done))))) [4] (fun _ => True) (by kernel_rfl) (by kernel_rfl) (by kernel_rfl) (by kernel_rfl) (by kernel_rfl) trivial ?_
    refine Exists.intro (.slice (some ⟨0, 0, none⟩) 5 5) (And.intro (fun w'' _ => cut_run ok rfl rfl rfl rfl rfl (by decide)) ?_)
    refine call_ (u_ok h g A c bs p s 1 Pool.w1 w1.drew (q1.new nd)) ?_
    rintro e w2 ⟨n, s1, rfl, r1, hb1, hp1, q2, m2⟩
    refine ⟨_, rfl, ?_⟩
    refine Exists.intro (fun _ => True) (And.intro (fun _ h => h) (And.intro trivial ?_))
    refine call_ (indexK_ok n w2 q2.tbl) ?_
    rintro e w3 ⟨rfl, hw3⟩
    obtain rfl := hw3.symm
    refine ⟨_, rfl, ?_⟩
    refine Exists.intro (fun _ => True) (And.intro (fun _ h => h) (And.intro trivial ?_))
    exact hK n _ _ ⟨rfl, rfl, rfl, trivial⟩ ⟨s1, r1, hp1, q2, Mod.trans nd.mod m2 fun _ _ e => e⟩
  rintro n w2 fr2 ⟨s1, r1, hp1, q2, m2⟩
  have hV2 := m2.blk hV1 hVr
  have rk : Rd kindT bs s (kindIx n) s1 := Rd.to kindIx (fun y hy _ => kindIx_no hy) r1
  have hkb := kindIx_bound n
  generalize kindIx n = k at rk hkb
  have rk2 : Rd kindT bs s k (s1.1, s1.2 || decide (k < 0)) := rk.mark fun o => by
    rw [decide_eq_false (show ¬ k < 0 by have := o.1; omega), Bool.or_false]
  refine seq_cut (σ := Unit) (fun _ => [(0, .pointer (some ⟨h, 0, none⟩)), (2, .pointer (some ⟨V, 0, none⟩)), (3, zi k)]) (fun _ w' => Ir w' h g A c bs p (s1.1, s1.2 || decide (k < 0)) ∧ Mod (RS h g) w1 w') ?_ ?_
  rotate_left
  · intro K hK
    refine if_p (fun hn => ?_) (fun hn => ?_)
    · replace hn : k < 0 := hn
      rw [decide_eq_true hn, Bool.or_true] at hK
      have hb := q2.blk
      refine And.intro ⟨_, cellB hb rfl⟩ (And.intro (fzB hb _) (force_ ?_))
      refine stK hb (show (2 : Nat) < 3 by decide) ?_
      intro w3 hb3 m3 s3
      exact hK () _ _ ⟨rfl, rfl, rfl, trivial⟩ ⟨q2.set m3 hb3, both m2 (m3.mono fun _ _ e => .inr e)⟩
    · replace hn : ¬ k < 0 := hn
      rw [decide_eq_false hn, Bool.or_false] at hK
      exact hK () _ _ ⟨rfl, rfl, rfl, trivial⟩ ⟨q2, m2⟩
  rintro _ w3 fr3 ⟨q3, m3⟩
  have hV3 := m3.blk hV1 hVr
  generalize hs2 : (s1.1, s1.2 || decide (k < 0)) = s2 at rk2 q3
  have hp2 : On s s2 := by
    rw [← hs2]
    exact hp1.or _
  have hs3 := m3.size
  have hn1 := n1.size
  refine seq_cut (σ := Nat) (fun E => [(0, .pointer (some ⟨h, 0, none⟩)), (2, .pointer (some ⟨V, 0, none⟩)), (3, zi k), (4, .pointer (some ⟨E, 0, none⟩))]) (fun E w' => New w3 w' ∧ w3.heap.size ≤ E ∧ w'.heap[E]? = some (.cells #[zi k, strV []] 51 (0, 0))) ?_ ?_
  rotate_left
  · intro K hK
    refine And.intro rfl ?_
    refine storeNew (vs := [zi k, strV []]) (arr := #[zi 0, .string ⟨#[]⟩]) rfl (tyOk.one (w := w3) (S := fun _ => False) (x := ⟨k, []⟩) rfl) ?_
    intro w4 hb4 n4 s4
    exact hK w3.heap.size _ _ ⟨rfl, rfl, rfl, rfl, trivial⟩ ⟨n4, Nat.le_refl _, hb4⟩
  rintro E w4 fr4 ⟨n4, hEw, hE4⟩
  have q4 := q3.new n4
  have hV4 := n4.blk hV3
  have hEn : ∀ b, Iin h g A bs p b → b ≠ E := fun b hb e => by have := q3.lt hb; omega
  have hEr : ¬ RS h g E := fun e => by
    rcases e with e | e
    · exact hEn _ (.inr (.inl rfl)) e.symm
    · exact hEn _ (.inl rfl) e.symm
  have hVl : V < w1.heap.size := (Array.getElem?_eq_some_iff.1 hV1).1
  refine seq_cut (σ := List UInt8) (fun _ => [(0, .pointer (some ⟨h, 0, none⟩)), (2, .pointer (some ⟨V, 0, none⟩)), (3, zi k), (4, .pointer (some ⟨E, 0, none⟩))]) (fun z w' => ∃ s', Rd (tyT p.l) bs s ⟨k, z⟩ s' ∧ On s s' ∧ w'.heap[E]? = some (.cells #[zi k, strV z] 51 (0, 0)) ∧ Ir w' h g A c bs p s' ∧ Mod (fun b => RS h g b ∨ b = E) w4 w') ?_ ?_
  rotate_left
  · intro K hK
    refine if_p (fun h4 => ?_) (fun h4 => ?_)
    · replace h4 : k = 4 := h4
      refine call_ (u_ok h g A c bs p s2 2 Pool.w2 w4 q4) ?_
      rintro e w5 ⟨n5, s5, rfl, r5, hb5, hp5, q5, m5⟩
      refine ⟨_, rfl, ?_⟩
      refine call_ (of_ok h g A c bs p s5 n5 7 w5 q5 hO hb5.1 (.inr rfl)) ?_
      rintro e w6 ⟨rfl, q6, m6⟩
      refine ⟨_, rfl, ?_⟩
      have hE6 := (both m5 m6).blk hE4 hEr
      refine And.intro ⟨_, cellB hE6 rfl⟩ (And.intro (fzB hE6 _) (force_ ?_))
      refine stK hE6 (show (1 : Nat) < 2 by decide) ?_
      intro w7 hb7 m7 s7
      refine hK (ofT p.l n5 7) _ _ ⟨rfl, rfl, rfl, rfl, trivial⟩ ⟨_, rd_ty (rk2.dseq (y := ofT p.l n5 7) ?_), ?_, hb7, q6.modN m7 (fun b hb e => hEn b hb e), Mod.trans ((both m5 m6).mono fun _ _ e => .inl e) m7 fun _ _ e => .inr e⟩
      · rw [if_pos h4]
        exact rd_cls r5
      · exact hp2.trans (hp5.or _)
    · replace h4 : ¬ k = 4 := h4
      refine hK [] _ _ ⟨rfl, rfl, rfl, rfl, trivial⟩ ⟨s2, rd_ty (rk2.dseq (y := []) ?_), hp2, hE4, q4, (New.refl w4).mod.mono fun _ _ e => False.elim e⟩
      rw [if_neg h4]
      exact Rd.nil rk2.2.1
  rintro z w5 fr5 ⟨s', rd5, hp5, hE5, q5, m5⟩
  have hV5 := m5.blk hV4 (fun e => e.elim hVr (by omega))
  refine loadN_row (vs := [zi k, strV z]) (rowB hE5) rfl ?_
  refine And.intro rfl ?_
  refine storeN_all (vs := [zi k, strV z]) hV5 rfl (tyOk.one (w := w5) (S := fun _ => False) (x := ⟨k, z⟩) rfl) ?_
  intro w6 hb6 m6 s6
  refine loadN_row (vs := [zi k, strV z]) (rowB hb6) rfl ?_
  refine ⟨_, ⟨k, z⟩, s', rfl, rfl, rd5, by show 3 ≤ _; omega, hp5, q5.modN m6 (fun b hb e => hVn b hb e), ?_⟩
  have a1 : Mod (RS h g) w w3 := Mod.trans n1.mod m3 fun _ _ e => e
  have a2 : Mod (RS h g) w w4 := both a1 n4.mod
  have a3 : Mod (RS h g) w w5 := Mod.trans a2 m5 fun b hb e => e.elim id fun e => by omega
  exact Mod.trans a3 m6 fun b hb e => by omega

end Go.Proofs.YtdcaafldnbcdkaaDoor.Class

/-! ### KRead3 -/
namespace Go.Proofs.YtdcaafldnbcdkaaDoor.Class
open Go Go.Proofs.YtdcaafldnbcdkaaDoor Go.Proofs.YtdcaafldnbcdkaaDoor.Eng Go.Proofs Go.Proofs.YtdcaafldnbcdkaaDoor.Word Go.Proofs.YtdcaafldnbcdkaaDoor.Fmt
open Go.Proofs.YtdcaafldnbcdkaaDoor.Pool (rd_modN rd_low RS Ent at_ poolF strV entC entV EntOk Pl OkPool both own_low tagAt)
set_option maxRecDepth 10000

/-- A member more: those that are there stay. -/
theorem mem_stepS {α : Type} {R : RepT α} {sz : Nat} (hR : RepOk R sz) {ts : List (List Value × α)} {w wl w5 w7 : World} {o o' : Option Nat} {cs : List Value} {x : α} {S : Nat → Prop} (hts : ∀ t ∈ ts, R wl (fun b => b < w.heap.size ∨ some b = o) t.1 t.2)
    (hx : R w5 (fun b => b < wl.heap.size) cs x) (m5 : Mod S wl w5) (hS : ∀ b, S b → b < w.heap.size) (k57 : Mod (fun b => some b = o) w5 w7) (hz : w.heap.size ≤ wl.heap.size) (ho : ∀ b, some b = o → w.heap.size ≤ b ∧ b < wl.heap.size)
    (st : ∀ b, some b = o' → some b = o ∨ w5.heap.size ≤ b) : ∀ t ∈ ts ++ [(cs, x)], R w7 (fun b => b < w.heap.size ∨ some b = o') t.1 t.2 := by
  intro t ht
  have m5z := m5.size
  rcases List.mem_append.1 ht with ht | ht
  · have h1 := hR.weak (S' := fun b => (b < w.heap.size ∨ some b = o) ∨ wl.heap.size ≤ b) (hts t ht) fun b hb e => e.resolve_right (by omega)
    have h2 := hR.mod h1 (m5.mono fun b hb e => .inl (.inl (hS b e)))
    have h3 := hR.mod h2 (k57.mono fun b hb e => .inl (.inr e))
    refine hR.weak h3 fun b hb e => ?_
    rcases e with e | e
    · exact .inl (.inl e)
    · rcases st b e with e | e
      · exact .inl (.inr e)
      · exact .inr (by omega)
  · rw [List.mem_singleton.1 ht]
    have h1 := hR.weak (S' := fun b => (b < w.heap.size ∨ some b = o) ∨ w5.heap.size ≤ b) hx fun b hb e => by
      rcases e with (e | e) | e
      · omega
      · exact (ho b e).2
      · omega
    have h3 := hR.mod h1 (k57.mono fun b hb e => .inl (.inr e))
    refine hR.weak h3 fun b hb e => ?_
    rcases e with e | e
    · exact .inl (.inl e)
    · rcases st b e with e | e
      · exact .inl (.inr e)
      · exact .inr e

theorem members_ty (h g : Nat) (A : Option Addr) (c : Nat) (bs : List UInt8) (p : Po) (s : RSt) (w : World) (q : Ir w h g A c bs p s) (hO : OkPool p.l)  (hm : bs.length ≤ 1000000) :
    Calls Tryd.prog 96 #[.pointer (some ⟨h, 0, none⟩), .func (.func 97) #[.pointer (some ⟨h, 0, none⟩)] #[]] w fun e w' => ∃ v xs s', e = .returned v ∧ LRep tyR w' (fun b => b < w.heap.size) v xs ∧ Rd (lstT (tyT p.l) 64 (by decide)) bs s xs s' ∧ csum cTy xs ≤ (0 + 3) * (s'.1 - s.1) + 3 ∧ xs.length ≤ (s'.1 - s.1) + 1 ∧ On s s' ∧ Ir w' h g A c bs p s' ∧ Mod (RS h g) w w' := by
  refine enter ok Tryd.func96 rfl rfl rfl ?_
  have low : ∀ b, (RS h g) b → b < w.heap.size := fun b e => q.lt (by rcases e with e | e; exact .inr (.inl e); exact .inl e)
  refine seq_assign ?_
  refine seq_assign ?_
  refine seq_cut (σ := (Option Addr × Nat) × List (List Value × Ty)) (fun t => [(5, .slice t.1.1 t.2.length t.1.2)]) (fun t w' => ∃ s', LRep tyR w' (fun b => b < w.heap.size) (.slice t.1.1 t.2.length t.1.2) (t.2.map (·.2)) ∧ Rd (lstT (tyT p.l) 64 (by decide)) bs s (t.2.map (·.2)) s' ∧ csum cTy (t.2.map (·.2)) ≤ (0 + 3) * (s'.1 - s.1) + 3 ∧ (t.2.map (·.2)).length ≤ (s'.1 - s.1) + 1 ∧ On s s' ∧ Ir w' h g A c bs p s' ∧ Mod (RS h g) w w') ?_ ?_
  · rintro t w1 fr1 ⟨s', h1, h2, h3, h4, h5, h6, h8⟩
    exact ⟨_, _, s', rfl, h1, h2, h3, h4, h5, h6, h8⟩
  intro K hK
  refine seq_cut (σ := Int) (fun n => [(0, .pointer (some ⟨h, 0, none⟩)), (1, .func (.func 97) #[.pointer (some ⟨h, 0, none⟩)] #[]), (5, .slice none 0 0), (6, zi n)]) (fun n w' => ∃ s1, Rd n2 bs s n s1 ∧ (0 ≤ n ∧ n < 65536) ∧ On s s1 ∧ Ir w' h g A c bs p s1 ∧ Mod (RS h g) w w' ∧ Mod (RS h g) w w') ?_ ?_
  rotate_left
  · intro K2 hK2
    refine call_ (u_ok h g A c bs p s 2 Pool.w2 w q) ?_
    rintro e w1 ⟨n, s1, rfl, rd1, hb, o1, p1, m1⟩
    refine ⟨_, rfl, ?_⟩
    exact hK2 n _ _ ⟨rfl, rfl, rfl, rfl, trivial⟩ ⟨s1, rd1, hb, o1, p1, m1.mono fun b hb e => e, m1⟩
  rintro n w1 fr1 ⟨s1, rd1, hn, o1, p1, m1, m1'⟩
  refine den_loop (σ := ((Option Addr × Nat) × List (List Value × Ty)) × Int × RSt) (fun t => [(0, .pointer (some ⟨h, 0, none⟩)), (1, .func (.func 97) #[.pointer (some ⟨h, 0, none⟩)] #[]), (5, .slice t.1.1.1 t.1.2.length t.1.1.2), (6, zi t.2.1)])
    (fun m t wl => m = t.2.1.toNat ∧ LRd (tyT p.l) 64 bs s (t.1.2.map (·.2)) t.2.1.toNat t.2.2 ∧ t.2.1.toNat + t.1.2.length ≤ 65536 ∧ t.2.1 ≤ 65536 ∧ On s t.2.2 ∧ Ir wl h g A c bs p t.2.2 ∧ Mod (RS h g) w wl ∧ LCo cTy 0 3 s (t.1.2.map (·.2)) t.2.2 ∧ wl.ownsRow w.heap.size 51 2 (.slice t.1.1.1 t.1.2.length t.1.1.2) t.1.2.length (cellsOf t.1.2) ∧
      (∀ y ∈ t.1.2, tyR wl (fun b => b < w.heap.size ∨ some b = (Value.slice t.1.1.1 t.1.2.length t.1.1.2).ownBlock) y.1 y.2)) n.toNat (((none, 0), []), n, s1)
    ⟨rfl, rfl, rfl, rfl, trivial⟩ ⟨rfl, LRd.start (by decide) rd1, by simp; omega, by dsimp only; omega, o1, p1, m1, LCo.start, ⟨rfl, .inl ⟨rfl, rfl⟩⟩, (fun _ h => (by cases h))⟩ ?_
  rintro m ⟨⟨⟨Al, cl⟩, ts⟩, z, s2⟩ wl frl ⟨rfl, hinv, hcnt, hz65, on2, pl, kl, hco, own, hts⟩
  dsimp only at hinv hcnt hz65 on2 pl kl hco own hts
  have hown := fun b (e : (Value.slice Al ts.length cl).ownBlock = some b) => own.lt b e
  have klz := kl.size
  have fin : (s2.2 = false → z.toNat = 0) → id (∃ s', LRep tyR wl (fun b => b < w.heap.size) (.slice Al ts.length cl) (ts.map (·.2)) ∧ Rd (lstT (tyT p.l) 64 (by decide)) bs s (ts.map (·.2)) s' ∧ csum cTy (ts.map (·.2)) ≤ (0 + 3) * (s'.1 - s.1) + 3 ∧ (ts.map (·.2)).length ≤ (s'.1 - s.1) + 1 ∧ On s s' ∧ Ir wl h g A c bs p s' ∧ Mod (RS h g) w wl) := fun hz => by
    obtain ⟨A', c', e', h5, h6, row, ho⟩ := own_slice own
    cases e'
    exact ⟨s2, ⟨Al, cl, ts, by rw [List.length_map], rfl, by rw [List.length_map]; exact h5, h6, by rw [List.length_map]; omega, row, fun a ha _ => ⟨(ho a ha).2.1, by have := (ho a ha).1; omega⟩, fun t ht => tyOk.weak (hts t ht) fun b _ hb => .inl hb⟩, hinv.done hz, hco.le.1, hco.le.2, on2, pl, kl⟩
  refine if_p (fun hlt => ?_) (fun hge => ?_)
  · replace hlt : 0 < z := hlt
    refine Exists.intro s2.2 (And.intro (cellB pl.blk rfl) ?_)
    refine if_ (fun hz => ?_) (fun hz => ?_)
    · replace hz : s2.2 = false := by simpa using hz
      obtain ⟨k, hk⟩ : ∃ k, z.toNat = k + 1 := ⟨z.toNat - 1, by omega⟩
      rw [hk] at hinv
      have hk' : (z - 1).toNat = k := by omega
      refine call_ (rkind_ok h g A c bs p s2 wl pl hO) ?_
      rintro e w5 ⟨cs, x, s5, he, hx, rd5, hcost5, hprog5, p5, m5⟩
      subst he
      have hx0 := hx
      obtain rfl := hx
      refine ⟨_, rfl, ?_⟩
      have m5z := m5.size
      have hnR : ∀ b, w.heap.size ≤ b → ¬ (RS h g) b := fun b hb e => by have := low b e; omega
      have own5 := own_mod m5 own (fun b hb => hnR b (hown b hb).1)
      have n6 := New.alloc w5 (.cells [zi x.kind, strV x.name].toArray 51)
      refine append2_ ok rfl rfl rfl rfl (own_new n6 own5) rfl rfl (row_alloc w5 [zi x.kind, strV x.name] _ _) rfl (tyOk.one hx0) (by decide) rfl (by show (ts.length + 1) * 24 ≤ _; omega) (by omega) (Nat.le_trans (by omega) n6.size) ?_
      intro A7 c7 w7 own7 mod7 st7
      have k57 : Mod (fun b => some b = (Value.slice Al ts.length cl).ownBlock) w5 w7 := Mod.trans n6.mod mod7 fun _ _ e => e
      have hl : (ts ++ [([zi x.kind, strV x.name], x)]).length = ts.length + 1 := by simp
      have st : ∀ b, some b = (Value.slice A7 (ts.length + 1) c7).ownBlock → some b = (Value.slice Al ts.length cl).ownBlock ∨ w5.heap.size ≤ b := fun b e => by
        rcases st7 b e.symm with e | e
        · exact .inl e.symm
        · exact .inr (Nat.le_trans n6.size e)
      have hnew := mem_stepS tyOk hts hx0 m5 low k57 klz (fun b e => hown b e.symm) st
      have pow := q.loc p5 k57 fun b e => (hown _ e.symm).1
      refine ⟨(z - 1).toNat, (((A7, c7), ts ++ [([zi x.kind, strV x.name], x)]), z - 1, s5), (by dsimp only; omega), ⟨rfl, rfl, (show Value.slice A7 (ts.length + 1) c7 = .slice A7 (ts ++ [([zi x.kind, strV x.name], x)]).length c7 by rw [hl]), (show zi (IntKind.i64.wrap (z - 1)) = zi (z - 1) by rw [wrap_i64 (by omega) (by omega)]), trivial⟩, rfl, ?_, ?_, by dsimp only; omega, on2.trans hprog5, pow, ?_, ?_, ?_, ?_⟩
      · dsimp only
        rw [hk', List.map_append]
        exact hinv.step rd5
      · dsimp only
        rw [hl]
        omega
      · exact Mod.trans (both kl m5) k57 fun b hb e => by have := hown b e.symm; omega
      · dsimp only
        rw [List.map_append]
        exact hco.step hinv.1 hz hcost5 hprog5
      · dsimp only
        rw [hl, cellsOf_snoc]
        exact own7
      · dsimp only
        rw [hl]
        exact hnew
    · replace hz : s2.2 = true := by simpa using hz
      exact hK ((Al, cl), ts) _ _ ⟨rfl, trivial⟩ (fin fun h => by rw [hz] at h; cases h)
  · replace hge : ¬ 0 < z := hge
    exact hK ((Al, cl), ts) _ _ ⟨rfl, trivial⟩ (fin fun _ => by omega)
theorem rhnd_ok (h g : Nat) (A : Option Addr) (c : Nat) (bs : List UInt8) (p : Po) (s : RSt) (w : World) (q : Ir w h g A c bs p s) (hO : OkPool p.l) (X : Nat) (hX : w.heap[X]? = some (.cells #[.pointer (some ⟨h, 0, none⟩)] 104 (0, 0))) (hXn : ¬ RS h g X) :
    Calls Tryd.prog 92 #[.pointer (some ⟨X, 0, none⟩)] w fun e w' => ∃ cs x s', e = .returned (.agg (List.toArray cs)) ∧ hndR w' (fun b => b < w.heap.size) cs x ∧ Rd (hndT p.l) bs s x s' ∧ cHnd x ≤ 0 * (s'.1 - s.1) + 8 ∧ On s s' ∧ Ir w' h g A c bs p s' ∧ Mod (RS h g) w w' := by
  refine enter ok Tryd.func92 rfl rfl rfl ?_
  obtain ⟨V, hV⟩ : ∃ V, V = w.heap.size := ⟨_, rfl⟩
  refine seq_cut (σ := Unit) (fun _ => [(0, .pointer (some ⟨X, 0, none⟩)), (1, .pointer (some ⟨V, 0, none⟩))]) (fun _ w' => New w w' ∧ w'.heap[V]? = some (.cells #[zi 0, zi 0, zi 0, zi 0] 46 (0, 0))) ?_ ?_
  rotate_left
  · intro K hK
    rw [hV] at hK
    exact hK () _ _ ⟨rfl, rfl, trivial⟩ ⟨New.alloc w _, heap_alloc_new w (.cells #[zi 0, zi 0, zi 0, zi 0] 46)⟩
  rintro _ w0 fr0 ⟨n0, hV0⟩
  have q0 := q.new n0
  have hX0 := n0.blk hX
  have hXl : X < w.heap.size := (Array.getElem?_eq_some_iff.1 hX).1
  have hVn : ∀ b, Iin h g A bs p b → b ≠ V := fun b hb e => by have := q.lt hb; omega
  have hVr : ¬ RS h g V := fun e => by
    rcases e with e | e
    · exact hVn _ (.inr (.inl rfl)) e.symm
    · exact hVn _ (.inl rfl) e.symm
  have hVl : V < w0.heap.size := (Array.getElem?_eq_some_iff.1 hV0).1
  refine seq_cut (σ := Nat × Int) (fun t => [(0, .pointer (some ⟨X, 0, none⟩)), (1, .pointer (some ⟨V, 0, none⟩)), (2, .pointer (some ⟨t.1, 0, none⟩))]) (fun t w' => ∃ s1, Rd Class.n2 bs s t.2 s1 ∧ On s s1 ∧ Ir w' h g A c bs p s1 ∧ Mod (RS h g) w0 w' ∧ w0.heap.size ≤ t.1 ∧ w'.heap[t.1]? = some (.cells #[zi t.2, zi 0, zi 0, zi 0] 46 (0, 0))) ?_ ?_
  rotate_left
  · intro K hK
    refine Exists.intro (some ⟨h, 0, none⟩) (And.intro (cell0 hX0) ?_)
    refine call_ (u_ok h g A c bs p s 2 Pool.w2 w0 q0) ?_
    rintro e w1 ⟨n, s1, rfl, r1, hb1, hp1, q1, m1⟩
    refine ⟨_, rfl, ?_⟩
    refine And.intro rfl ?_
    refine storeNew (vs := [zi n, zi 0, zi 0, zi 0]) (arr := #[zi 0, zi 0, zi 0, zi 0]) rfl (hndOk.one (w := w1) (S := fun _ => False) (x := ⟨n, 0, 0, 0⟩) rfl) ?_
    intro w2 hb2 n2 s2
    exact hK (w1.heap.size, n) _ _ ⟨rfl, rfl, rfl, trivial⟩ ⟨s1, r1, hp1, q1.new n2, both m1 n2.mod, m1.size, hb2⟩
  rintro ⟨E, n1⟩ w1 fr1 ⟨s1, r1, hp1, q1, m1, hEw, hE1⟩
  dsimp only at r1 hEw hE1
  have hE0 : ∀ b, Iin h g A bs p b → b ≠ E := fun b hb e => by have := q0.lt hb; omega
  have hEr : ¬ RS h g E := fun e => by
    rcases e with e | e
    · exact hE0 _ (.inr (.inl rfl)) e.symm
    · exact hE0 _ (.inl rfl) e.symm
  have hX1 := m1.blk hX0 hXn
  have hV1 := m1.blk hV0 hVr
  refine seq_cut (σ := Int) (fun _ => [(0, .pointer (some ⟨X, 0, none⟩)), (1, .pointer (some ⟨V, 0, none⟩)), (2, .pointer (some ⟨E, 0, none⟩))]) (fun n' w' => ∃ s', Rd Class.n2 bs s1 n' s' ∧ On s1 s' ∧ Ir w' h g A c bs p s' ∧ Mod (fun b => RS h g b ∨ b = E) w1 w' ∧ w'.heap[X]? = some (.cells #[.pointer (some ⟨h, 0, none⟩)] 104 (0, 0)) ∧ w'.heap[V]? = some (.cells #[zi 0, zi 0, zi 0, zi 0] 46 (0, 0)) ∧ w'.heap[E]? = some (.cells #[zi n1, zi n', zi 0, zi 0] 46 (0, 0))) ?_ ?_
  rotate_left
  · intro K hK
    refine Exists.intro (some ⟨h, 0, none⟩) (And.intro (cell0 hX1) ?_)
    refine call_ (u_ok h g A c bs p s1 2 Pool.w2 w1 q1) ?_
    rintro e wa ⟨na, sa, rfl, ra, hba, hpa, qa, ma⟩
    refine ⟨_, rfl, ?_⟩
    have hEa := ma.blk hE1 hEr
    refine And.intro ⟨_, cellB hEa rfl⟩ (And.intro (fzB hEa _) (force_ ?_))
    refine stK hEa (show (1 : Nat) < 4 by decide) ?_
    intro wb hEb mb sb
    exact hK na _ _ ⟨rfl, rfl, rfl, trivial⟩ ⟨sa, ra, hpa, qa.modN mb (fun b hb e => hE0 b hb e), Mod.trans (ma.mono fun _ _ e => .inl e) mb fun _ _ e => .inr e, mb.blk (ma.blk hX1 hXn) (show ¬ X = E by have := n0.size; omega), mb.blk (ma.blk hV1 hVr) (show ¬ V = E by omega), hEb⟩
  rintro n2 w2 fr2 ⟨s2, r2, o2, q2, l2, hX2, hV2, hE2⟩
  refine seq_cut (σ := Int) (fun _ => [(0, .pointer (some ⟨X, 0, none⟩)), (1, .pointer (some ⟨V, 0, none⟩)), (2, .pointer (some ⟨E, 0, none⟩))]) (fun n' w' => ∃ s', Rd Class.n2 bs s2 n' s' ∧ On s2 s' ∧ Ir w' h g A c bs p s' ∧ Mod (fun b => RS h g b ∨ b = E) w1 w' ∧ w'.heap[X]? = some (.cells #[.pointer (some ⟨h, 0, none⟩)] 104 (0, 0)) ∧ w'.heap[V]? = some (.cells #[zi 0, zi 0, zi 0, zi 0] 46 (0, 0)) ∧ w'.heap[E]? = some (.cells #[zi n1, zi n2, zi n', zi 0] 46 (0, 0))) ?_ ?_
  rotate_left
  · intro K hK
    refine Exists.intro (some ⟨h, 0, none⟩) (And.intro (cell0 hX2) ?_)
    refine call_ (u_ok h g A c bs p s2 2 Pool.w2 w2 q2) ?_
    rintro e wa ⟨na, sa, rfl, ra, hba, hpa, qa, ma⟩
    refine ⟨_, rfl, ?_⟩
    have hEa := ma.blk hE2 hEr
    refine And.intro ⟨_, cellB hEa rfl⟩ (And.intro (fzB hEa _) (force_ ?_))
    refine stK hEa (show (2 : Nat) < 4 by decide) ?_
    intro wb hEb mb sb
    exact hK na _ _ ⟨rfl, rfl, rfl, trivial⟩ ⟨sa, ra, hpa, qa.modN mb (fun b hb e => hE0 b hb e), both l2 (Mod.trans (ma.mono fun _ _ e => .inl e) mb fun _ _ e => .inr e), mb.blk (ma.blk hX2 hXn) (show ¬ X = E by have := n0.size; omega), mb.blk (ma.blk hV2 hVr) (show ¬ V = E by omega), hEb⟩
  rintro n3 w3 fr3 ⟨s3, r3, o3, q3, l3, hX3, hV3, hE3⟩
  refine seq_cut (σ := Int) (fun _ => [(0, .pointer (some ⟨X, 0, none⟩)), (1, .pointer (some ⟨V, 0, none⟩)), (2, .pointer (some ⟨E, 0, none⟩))]) (fun n' w' => ∃ s', Rd Class.n2 bs s3 n' s' ∧ On s3 s' ∧ Ir w' h g A c bs p s' ∧ Mod (fun b => RS h g b ∨ b = E) w1 w' ∧ w'.heap[X]? = some (.cells #[.pointer (some ⟨h, 0, none⟩)] 104 (0, 0)) ∧ w'.heap[V]? = some (.cells #[zi 0, zi 0, zi 0, zi 0] 46 (0, 0)) ∧ w'.heap[E]? = some (.cells #[zi n1, zi n2, zi n3, zi n'] 46 (0, 0))) ?_ ?_
  rotate_left
  · intro K hK
    refine Exists.intro (some ⟨h, 0, none⟩) (And.intro (cell0 hX3) ?_)
    refine call_ (u_ok h g A c bs p s3 2 Pool.w2 w3 q3) ?_
    rintro e wa ⟨na, sa, rfl, ra, hba, hpa, qa, ma⟩
    refine ⟨_, rfl, ?_⟩
    have hEa := ma.blk hE3 hEr
    refine And.intro ⟨_, cellB hEa rfl⟩ (And.intro (fzB hEa _) (force_ ?_))
    refine stK hEa (show (3 : Nat) < 4 by decide) ?_
    intro wb hEb mb sb
    exact hK na _ _ ⟨rfl, rfl, rfl, trivial⟩ ⟨sa, ra, hpa, qa.modN mb (fun b hb e => hE0 b hb e), both l3 (Mod.trans (ma.mono fun _ _ e => .inl e) mb fun _ _ e => .inr e), mb.blk (ma.blk hX3 hXn) (show ¬ X = E by have := n0.size; omega), mb.blk (ma.blk hV3 hVr) (show ¬ V = E by omega), hEb⟩
  rintro n4 w4 fr4 ⟨s4, r4, o4, q4, l4, hX4, hV4, hE4⟩
  refine loadN_row (vs := [zi n1, zi n2, zi n3, zi n4]) (rowB hE4) rfl ?_
  refine And.intro rfl ?_
  refine storeN_all (vs := [zi n1, zi n2, zi n3, zi n4]) hV4 rfl (hndOk.one (w := w4) (S := fun _ => False) (x := ⟨n1, n2, n3, n4⟩) rfl) ?_
  intro w5 hb5 m5 s5
  refine loadN_row (vs := [zi n1, zi n2, zi n3, zi n4]) (rowB hb5) rfl ?_
  have hn0 := n0.size
  refine ⟨_, ⟨n1, n2, n3, n4⟩, s4, rfl, rfl, Rd.byP (f := fun h : Hnd => (h.from_, h.to, h.at_, h.cls)) (y := ⟨n1, n2, n3, n4⟩) (r1.seq (r2.seq (r3.seq r4))) (fun z e => by cases z; cases e; rfl), by show 8 ≤ _; omega, ?_, q4.modN m5 (fun b hb e => hVn b hb e), ?_⟩
  · exact hp1.trans (o2.trans (o3.trans o4))
  · have a1 : Mod (RS h g) w w1 := Mod.trans n0.mod m1 fun _ _ e => e
    have a2 : Mod (RS h g) w w4 := Mod.trans a1 l4 fun b hb e => e.elim id fun e => by omega
    exact Mod.trans a2 m5 fun b hb e => by omega

theorem members_hnd (h g : Nat) (A : Option Addr) (c : Nat) (bs : List UInt8) (p : Po) (s : RSt) (w : World) (q : Ir w h g A c bs p s) (hO : OkPool p.l) (X : Nat) (hX : w.heap[X]? = some (.cells #[.pointer (some ⟨h, 0, none⟩)] 104 (0, 0))) (hXn : ¬ RS h g X) (hm : bs.length ≤ 1000000) :
    Calls Tryd.prog 91 #[.pointer (some ⟨h, 0, none⟩), .func (.func 92) #[] #[.pointer (some ⟨X, 0, none⟩)]] w fun e w' => ∃ v xs s', e = .returned v ∧ LRep hndR w' (fun b => b < w.heap.size) v xs ∧ Rd (lstT (hndT p.l) 256 (by decide)) bs s xs s' ∧ csum cHnd xs ≤ (0 + 8) * (s'.1 - s.1) + 8 ∧ xs.length ≤ (s'.1 - s.1) + 1 ∧ On s s' ∧ Ir w' h g A c bs p s' ∧ Mod (RS h g) w w' := by
  refine enter ok Tryd.func91 rfl rfl rfl ?_
  have low : ∀ b, (RS h g) b → b < w.heap.size := fun b e => q.lt (by rcases e with e | e; exact .inr (.inl e); exact .inl e)
  refine seq_assign ?_
  refine seq_assign ?_
  refine seq_cut (σ := (Option Addr × Nat) × List (List Value × Hnd)) (fun t => [(5, .slice t.1.1 t.2.length t.1.2)]) (fun t w' => ∃ s', LRep hndR w' (fun b => b < w.heap.size) (.slice t.1.1 t.2.length t.1.2) (t.2.map (·.2)) ∧ Rd (lstT (hndT p.l) 256 (by decide)) bs s (t.2.map (·.2)) s' ∧ csum cHnd (t.2.map (·.2)) ≤ (0 + 8) * (s'.1 - s.1) + 8 ∧ (t.2.map (·.2)).length ≤ (s'.1 - s.1) + 1 ∧ On s s' ∧ Ir w' h g A c bs p s' ∧ Mod (RS h g) w w') ?_ ?_
  · rintro t w1 fr1 ⟨s', h1, h2, h3, h4, h5, h6, h8⟩
    exact ⟨_, _, s', rfl, h1, h2, h3, h4, h5, h6, h8⟩
  intro K hK
  refine seq_cut (σ := Int) (fun n => [(0, .pointer (some ⟨h, 0, none⟩)), (1, .func (.func 92) #[] #[.pointer (some ⟨X, 0, none⟩)]), (5, .slice none 0 0), (6, zi n)]) (fun n w' => ∃ s1, Rd n2 bs s n s1 ∧ (0 ≤ n ∧ n < 65536) ∧ On s s1 ∧ Ir w' h g A c bs p s1 ∧ Mod (RS h g) w w' ∧ Mod (RS h g) w w') ?_ ?_
  rotate_left
  · intro K2 hK2
    refine call_ (u_ok h g A c bs p s 2 Pool.w2 w q) ?_
    rintro e w1 ⟨n, s1, rfl, rd1, hb, o1, p1, m1⟩
    refine ⟨_, rfl, ?_⟩
    exact hK2 n _ _ ⟨rfl, rfl, rfl, rfl, trivial⟩ ⟨s1, rd1, hb, o1, p1, m1.mono fun b hb e => e, m1⟩
  rintro n w1 fr1 ⟨s1, rd1, hn, o1, p1, m1, m1'⟩
  refine den_loop (σ := ((Option Addr × Nat) × List (List Value × Hnd)) × Int × RSt) (fun t => [(0, .pointer (some ⟨h, 0, none⟩)), (1, .func (.func 92) #[] #[.pointer (some ⟨X, 0, none⟩)]), (5, .slice t.1.1.1 t.1.2.length t.1.1.2), (6, zi t.2.1)])
    (fun m t wl => m = t.2.1.toNat ∧ LRd (hndT p.l) 256 bs s (t.1.2.map (·.2)) t.2.1.toNat t.2.2 ∧ t.2.1.toNat + t.1.2.length ≤ 65536 ∧ t.2.1 ≤ 65536 ∧ On s t.2.2 ∧ Ir wl h g A c bs p t.2.2 ∧ Mod (RS h g) w wl ∧ LCo cHnd 0 8 s (t.1.2.map (·.2)) t.2.2 ∧ wl.ownsRow w.heap.size 46 4 (.slice t.1.1.1 t.1.2.length t.1.1.2) t.1.2.length (cellsOf t.1.2) ∧
      (∀ y ∈ t.1.2, hndR wl (fun b => b < w.heap.size ∨ some b = (Value.slice t.1.1.1 t.1.2.length t.1.1.2).ownBlock) y.1 y.2)) n.toNat (((none, 0), []), n, s1)
    ⟨rfl, rfl, rfl, rfl, trivial⟩ ⟨rfl, LRd.start (by decide) rd1, by simp; omega, by dsimp only; omega, o1, p1, m1, LCo.start, ⟨rfl, .inl ⟨rfl, rfl⟩⟩, (fun _ h => (by cases h))⟩ ?_
  rintro m ⟨⟨⟨Al, cl⟩, ts⟩, z, s2⟩ wl frl ⟨rfl, hinv, hcnt, hz65, on2, pl, kl, hco, own, hts⟩
  dsimp only at hinv hcnt hz65 on2 pl kl hco own hts
  have hown := fun b (e : (Value.slice Al ts.length cl).ownBlock = some b) => own.lt b e
  have klz := kl.size
  have fin : (s2.2 = false → z.toNat = 0) → id (∃ s', LRep hndR wl (fun b => b < w.heap.size) (.slice Al ts.length cl) (ts.map (·.2)) ∧ Rd (lstT (hndT p.l) 256 (by decide)) bs s (ts.map (·.2)) s' ∧ csum cHnd (ts.map (·.2)) ≤ (0 + 8) * (s'.1 - s.1) + 8 ∧ (ts.map (·.2)).length ≤ (s'.1 - s.1) + 1 ∧ On s s' ∧ Ir wl h g A c bs p s' ∧ Mod (RS h g) w wl) := fun hz => by
    obtain ⟨A', c', e', h5, h6, row, ho⟩ := own_slice own
    cases e'
    exact ⟨s2, ⟨Al, cl, ts, by rw [List.length_map], rfl, by rw [List.length_map]; exact h5, h6, by rw [List.length_map]; omega, row, fun a ha _ => ⟨(ho a ha).2.1, by have := (ho a ha).1; omega⟩, fun t ht => hndOk.weak (hts t ht) fun b _ hb => .inl hb⟩, hinv.done hz, hco.le.1, hco.le.2, on2, pl, kl⟩
  refine if_p (fun hlt => ?_) (fun hge => ?_)
  · replace hlt : 0 < z := hlt
    refine Exists.intro s2.2 (And.intro (cellB pl.blk rfl) ?_)
    refine if_ (fun hz => ?_) (fun hz => ?_)
    · replace hz : s2.2 = false := by simpa using hz
      obtain ⟨k, hk⟩ : ∃ k, z.toNat = k + 1 := ⟨z.toNat - 1, by omega⟩
      rw [hk] at hinv
      have hk' : (z - 1).toNat = k := by omega
      refine call_ (rhnd_ok h g A c bs p s2 wl pl hO X (kl.blk hX hXn) hXn) ?_
      rintro e w5 ⟨cs, x, s5, he, hx, rd5, hcost5, hprog5, p5, m5⟩
      subst he
      have hx0 := hx
      obtain rfl := hx
      refine ⟨_, rfl, ?_⟩
      have m5z := m5.size
      have hnR : ∀ b, w.heap.size ≤ b → ¬ (RS h g) b := fun b hb e => by have := low b e; omega
      have own5 := own_mod m5 own (fun b hb => hnR b (hown b hb).1)
      have n6 := New.alloc w5 (.cells [zi x.from_, zi x.to, zi x.at_, zi x.cls].toArray 46)
      refine append2_ ok rfl rfl rfl rfl (own_new n6 own5) rfl rfl (row_alloc w5 [zi x.from_, zi x.to, zi x.at_, zi x.cls] _ _) rfl (hndOk.one hx0) (by decide) rfl (by show (ts.length + 1) * 32 ≤ _; omega) (by omega) (Nat.le_trans (by omega) n6.size) ?_
      intro A7 c7 w7 own7 mod7 st7
      have k57 : Mod (fun b => some b = (Value.slice Al ts.length cl).ownBlock) w5 w7 := Mod.trans n6.mod mod7 fun _ _ e => e
      have hl : (ts ++ [([zi x.from_, zi x.to, zi x.at_, zi x.cls], x)]).length = ts.length + 1 := by simp
      have st : ∀ b, some b = (Value.slice A7 (ts.length + 1) c7).ownBlock → some b = (Value.slice Al ts.length cl).ownBlock ∨ w5.heap.size ≤ b := fun b e => by
        rcases st7 b e.symm with e | e
        · exact .inl e.symm
        · exact .inr (Nat.le_trans n6.size e)
      have hnew := mem_stepS hndOk hts hx0 m5 low k57 klz (fun b e => hown b e.symm) st
      have pow := q.loc p5 k57 fun b e => (hown _ e.symm).1
      refine ⟨(z - 1).toNat, (((A7, c7), ts ++ [([zi x.from_, zi x.to, zi x.at_, zi x.cls], x)]), z - 1, s5), (by dsimp only; omega), ⟨rfl, rfl, (show Value.slice A7 (ts.length + 1) c7 = .slice A7 (ts ++ [([zi x.from_, zi x.to, zi x.at_, zi x.cls], x)]).length c7 by rw [hl]), (show zi (IntKind.i64.wrap (z - 1)) = zi (z - 1) by rw [wrap_i64 (by omega) (by omega)]), trivial⟩, rfl, ?_, ?_, by dsimp only; omega, on2.trans hprog5, pow, ?_, ?_, ?_, ?_⟩
      · dsimp only
        rw [hk', List.map_append]
        exact hinv.step rd5
      · dsimp only
        rw [hl]
        omega
      · exact Mod.trans (both kl m5) k57 fun b hb e => by have := hown b e.symm; omega
      · dsimp only
        rw [List.map_append]
        exact hco.step hinv.1 hz hcost5 hprog5
      · dsimp only
        rw [hl, cellsOf_snoc]
        exact own7
      · dsimp only
        rw [hl]
        exact hnew
    · replace hz : s2.2 = true := by simpa using hz
      exact hK ((Al, cl), ts) _ _ ⟨rfl, trivial⟩ (fin fun h => by rw [hz] at h; cases h)
  · replace hge : ¬ 0 < z := hge
    exact hK ((Al, cl), ts) _ _ ⟨rfl, trivial⟩ (fin fun _ => by omega)

end Go.Proofs.YtdcaafldnbcdkaaDoor.Class

/-! ### KRead4 -/
namespace Go.Proofs.YtdcaafldnbcdkaaDoor.Class
open Go Go.Proofs.YtdcaafldnbcdkaaDoor Go.Proofs.YtdcaafldnbcdkaaDoor.Eng Go.Proofs Go.Proofs.YtdcaafldnbcdkaaDoor.Word Go.Proofs.YtdcaafldnbcdkaaDoor.Fmt
open Go.Proofs.YtdcaafldnbcdkaaDoor.Pool (rd_modN rd_low RS Ent at_ poolF strV entC entV EntOk Pl OkPool both own_low tagAt)
set_option maxRecDepth 10000

def locIn : List Ty → List Ty
  | [] => []
  | x :: r => if x.kind = 2 then x :: ty0 :: locIn r else x :: locIn r
theorem locIn_snoc (x : Ty) : ∀ a : List Ty, locIn (a ++ [x]) = locIn a ++ (if x.kind = 2 then [x, ty0] else [x])
  | [] => by
    show (if x.kind = 2 then _ else _) = _
    split <;> rfl
  | y :: r => by
    have ih := locIn_snoc x r
    show (if y.kind = 2 then y :: ty0 :: locIn (r ++ [x]) else y :: locIn (r ++ [x])) = (if y.kind = 2 then y :: ty0 :: locIn r else y :: locIn r) ++ _
    rw [ih]
    split <;> rfl
theorem locIn_len : ∀ a : List Ty, (locIn a).length ≤ 2 * a.length
  | [] => Nat.le_refl _
  | x :: r => by
    have := locIn_len r
    show (if x.kind = 2 then x :: ty0 :: locIn r else x :: locIn r).length ≤ _
    split
    · rw [List.length_cons, List.length_cons, List.length_cons]; omega
    · rw [List.length_cons, List.length_cons]; omega
theorem locIn_out : ∀ ys : List Ty, locOk false ys → locIn (locOut false ys) = ys
  | [], _ => rfl
  | [x], h => by
    by_cases hk : x.kind = 2
    · have h : locOk (decide (x.kind = 2)) [] := h
      rw [decide_eq_true hk] at h
      exact h.elim
    · show (if x.kind = 2 then x :: ty0 :: locIn (locOut (decide (x.kind = 2)) []) else x :: locIn (locOut (decide (x.kind = 2)) [])) = _
      rw [if_neg hk, decide_eq_false hk]
      rfl
  | x :: y :: r, h => by
    have h : locOk (decide (x.kind = 2)) (y :: r) := h
    show (if x.kind = 2 then x :: ty0 :: locIn (locOut (decide (x.kind = 2)) (y :: r)) else x :: locIn (locOut (decide (x.kind = 2)) (y :: r))) = _
    by_cases hk : x.kind = 2
    · rw [decide_eq_true hk] at h
      rw [if_pos hk, decide_eq_true hk]
      obtain ⟨h1, h2⟩ := h
      subst h1
      show x :: ty0 :: locIn (locOut false r) = _
      rw [locIn_out r h2]
    · rw [decide_eq_false hk] at h
      rw [if_neg hk, decide_eq_false hk, locIn_out (y :: r) h]
theorem rlocals_ok (h g : Nat) (A : Option Addr) (c : Nat) (bs : List UInt8) (p : Po) (s : RSt) (w : World) (q : Ir w h g A c bs p s) (hO : OkPool p.l) (hm : bs.length ≤ 1000000) :
    Calls Tryd.prog 95 #[.pointer (some ⟨h, 0, none⟩)] w fun e w' => ∃ v ys s', e = .returned v ∧ LRep tyR w' (fun b => b < w.heap.size) v ys ∧ Rd (lcsT p.l) bs s ys s' ∧ ys.length ≤ 2 * ((s'.1 - s.1) + 1) ∧ On s s' ∧ Ir w' h g A c bs p s' ∧ Mod (RS h g) w w' := by
  refine enter ok Tryd.func95 rfl rfl rfl ?_
  refine seq_assign ?_
  refine seq_assign ?_
  refine seq_cut (σ := (Option Addr × Nat) × List Ty) (fun t => [(3, .slice t.1.1 t.2.length t.1.2)]) (fun t w' => ∃ s', LRep tyR w' (fun b => b < w.heap.size) (.slice t.1.1 t.2.length t.1.2) t.2 ∧ Rd (lcsT p.l) bs s t.2 s' ∧ t.2.length ≤ 2 * ((s'.1 - s.1) + 1) ∧ On s s' ∧ Ir w' h g A c bs p s' ∧ Mod (RS h g) w w') ?_ ?_
  · rintro t w1 fr1 ⟨s', h1, h2, h3, h4, h5, h6⟩
    exact ⟨_, _, s', rfl, h1, h2, h3, h4, h5, h6⟩
  intro K hK
  refine seq_cut (σ := (Option Addr × Nat) × List Ty) (fun t => [(3, .slice none 0 0), (9, .slice t.1.1 t.2.length t.1.2), (10, zi (t.2.length : Int)), (11, zi 0)]) (fun t w' => ∃ s', LRep tyR w' (fun b => b < w.heap.size) (.slice t.1.1 t.2.length t.1.2) t.2 ∧ Rd (stkT p.l) bs s t.2 s' ∧ t.2.length ≤ (s'.1 - s.1) + 1 ∧ On s s' ∧ Ir w' h g A c bs p s' ∧ Mod (RS h g) w w') ?_ ?_
  rotate_left
  · intro K2 hK2
    refine call_ (members_ty h g A c bs p s w q hO hm) ?_
    rintro e w1 ⟨v, xs, s', rfl, hl, r, _, hlen, o, q1, m1⟩
    obtain ⟨Ax, cx, rfl, _⟩ := hl.get tyOk (by decide)
    refine ⟨_, rfl, ?_⟩
    exact hK2 ((Ax, cx), xs) _ _ ⟨rfl, rfl, rfl, rfl, trivial⟩ ⟨s', hl, r, hlen, o, q1, m1⟩
  rintro ⟨⟨Ax, cx⟩, xs⟩ w1 fr1 ⟨s', hl, r, hlen, o, q1, m1⟩
  dsimp only at hl r hlen
  obtain ⟨_, _, he0, h43, _⟩ := hl.get tyOk (by decide)
  have hrl := r.2.1
  have m1z := m1.size
  refine den_loop (σ := Nat × ((Option Addr × Nat) × List Ty)) (fun t => [(3, .slice t.2.1.1 t.2.2.length t.2.1.2), (9, .slice Ax xs.length cx), (10, zi (xs.length : Int)), (11, zi (t.1 : Int))])
    (fun m t wl => m + t.1 = xs.length ∧ t.2.2 = locIn (xs.take t.1) ∧ Mod (fun b => w1.heap.size ≤ b) w1 wl ∧ wl.ownsRow w1.heap.size 51 2 (.slice t.2.1.1 t.2.2.length t.2.1.2) t.2.2.length (cellsOf (t.2.2.map fun y => ([zi y.kind, strV y.name], y)))) xs.length (0, (none, 0), [])
    ⟨rfl, rfl, rfl, rfl, trivial⟩ ⟨rfl, rfl, (New.refl w1).mod.mono fun _ _ e => False.elim e, ⟨rfl, .inl ⟨rfl, rfl⟩⟩⟩ ?_
  rintro m ⟨i, ⟨Ao, co⟩, os⟩ wl frl ⟨hfuel, hos, ml, own⟩
  dsimp only at hfuel hos own
  have mlz := ml.size
  have holen : os.length ≤ 2 * i := by
    have := locIn_len (xs.take i)
    rw [← hos, List.length_take] at this
    omega
  refine if_p (fun hlt => ?_) (fun hge => ?_)
  · replace hlt : (i : Int) < (xs.length : Int) := hlt
    have hi : i < xs.length := by omega
    obtain ⟨m, rfl⟩ : ∃ m', m = m' + 1 := ⟨m - 1, by omega⟩
    have inc : Value.int .i64 (IntKind.i64.wrap ((i : Int) + 1)) = .int .i64 ((i + 1 : Nat) : Int) := incN hi h43
    have hl1 : LRep tyR w1 (fun b => w1.heap.size ≤ b) (.slice Ax xs.length cx) xs := LRep.weak tyOk hl fun b hb e => absurd hb (by omega)
    obtain ⟨_, _, he, _, gx⟩ := (LRep.mod tyOk (by decide) hl1 ml).get tyOk (by decide)
    cases he
    obtain ⟨a, cs, ea, hx, hc⟩ := gx i hi
    have htake : locIn (xs.take (i + 1)) = os ++ (if xs[i].kind = 2 then [xs[i], ty0] else [xs[i]]) := by
      rw [List.take_succ_eq_append_getElem hi, locIn_snoc, hos]
    generalize xs[i] = y at hx htake
    obtain rfl := hx
    refine And.intro (by omega) (And.intro hlt ?_)
    refine some_at ea ?_
    refine loadN_row (vs := [zi y.kind, strV y.name]) (fun j u hu => by rw [Int.toNat_natCast]; exact hc j u hu) rfl ?_
    refine And.intro rfl ?_
    refine storeNew (vs := [zi y.kind, strV y.name]) (arr := #[zi 0, .string ⟨#[]⟩]) rfl (tyOk.one (w := wl) (S := fun _ => False) (x := y) rfl) ?_
    intro w5 hb5 n5 s5
    refine loadN_row (vs := [zi y.kind, strV y.name]) (rowB hb5) rfl ?_
    have own5 := own_new n5 own
    have n6 := New.alloc w5 (.cells [zi y.kind, strV y.name].toArray 51)
    have n5z := n5.size
    have n6z := n6.size
    refine append2_ ok rfl rfl rfl rfl (own_new n6 own5) rfl rfl (row_alloc w5 [zi y.kind, strV y.name] _ _) rfl (tyOk.one (w := wl) (S := fun _ => False) (x := y) rfl) (by decide) rfl (by show (os.length + 1) * 24 ≤ _; omega) (by omega) (Nat.le_trans (show w1.heap.size ≤ w5.heap.size by omega) n6.size) ?_
    intro A7 c7 w7 own7 mod7 st7
    have m7 : Mod (fun b => w1.heap.size ≤ b) w1 w7 := Mod.trans (Mod.trans ml (n5.trans n6).mod fun _ _ e => False.elim e) mod7 fun b hb e => (own.lt b e.symm).1
    have m57 : Mod (fun b => some b = (Value.slice Ao os.length co).ownBlock) w5 w7 := Mod.trans n6.mod mod7 fun _ _ e => e
    have hb7 := m57.blk hb5 (fun e => by have := (own.lt _ e.symm).2; omega)
    refine Exists.intro y.kind (And.intro (cellB hb7 rfl) ?_)
    have m7z : w1.heap.size ≤ w7.heap.size := m7.size
    refine if_p (fun hk => ?_) (fun hk => ?_)
    · replace hk : y.kind = 2 := hk
      rw [if_pos hk] at htake
      have n8 := New.alloc w7 (.cells [zi 0, strV []].toArray 51)
      have n8z := n8.size
      refine append2_ ok rfl rfl rfl rfl (own_new n8 own7) rfl rfl (row_alloc w7 [zi 0, strV []] _ _) rfl (tyOk.one (w := wl) (S := fun _ => False) (x := ty0) rfl) (by decide) rfl (by show (os.length + 1 + 1) * 24 ≤ _; omega) (by omega) (Nat.le_trans m7z n8.size) ?_
      intro A9 c9 w9 own9 mod9 st9
      have hl9 : (os ++ [y, ty0]).length = os.length + 1 + 1 := by simp
      refine ⟨m, (i + 1, (A9, c9), os ++ [y, ty0]), by omega, ⟨(show Value.slice A9 (os.length + 1 + 1) c9 = .slice A9 (os ++ [y, ty0]).length c9 by rw [hl9]), rfl, rfl, inc, trivial⟩, by dsimp only; omega, htake.symm, Mod.trans (Mod.trans m7 n8.mod fun _ _ e => False.elim e) mod9 fun b hb e => (own7.lt b e.symm).1, ?_⟩
      dsimp only
      rw [hl9, show os ++ [y, ty0] = (os ++ [y]) ++ [ty0] by simp, List.map_append, List.map_append, List.map_cons, List.map_nil, List.map_cons, List.map_nil, cellsOf_snoc, cellsOf_snoc]
      exact own9
    · replace hk : ¬ y.kind = 2 := hk
      rw [if_neg hk] at htake
      have hl7 : (os ++ [y]).length = os.length + 1 := by simp
      refine ⟨m, (i + 1, (A7, c7), os ++ [y]), by omega, ⟨(show Value.slice A7 (os.length + 1) c7 = .slice A7 (os ++ [y]).length c7 by rw [hl7]), rfl, rfl, inc, trivial⟩, by dsimp only; omega, htake.symm, m7, ?_⟩
      dsimp only
      rw [hl7, List.map_append, List.map_cons, List.map_nil, cellsOf_snoc]
      exact own7
  · replace hge : ¬ (i : Int) < (xs.length : Int) := hge
    rw [List.take_of_length_le (by omega)] at hos
    obtain ⟨A', c', e', h5, h6, row, ho⟩ := own_slice own
    cases e'
    refine hK ((Ao, co), os) _ _ ⟨rfl, trivial⟩ ⟨s', ⟨Ao, co, os.map fun y => ([zi y.kind, strV y.name], y), rfl, by rw [List.map_map]; exact List.map_id _, h5, h6, by dsimp only; omega, row, fun a ha _ => ⟨(ho a ha).2.1, by have := (ho a ha).1; omega⟩, fun t ht => ?_⟩, ?_, by dsimp only; omega, o, q.loc q1 ml (fun b e => by omega), Mod.trans m1 ml fun b hb e => by omega⟩
    · obtain ⟨y, _, rfl⟩ := List.mem_map.1 ht
      rfl
    · dsimp only
      rw [hos]
      exact Rd.to locIn (fun y hy _ => locIn_out y hy.2) r

end Go.Proofs.YtdcaafldnbcdkaaDoor.Class

/-! ### KWrite3 -/
namespace Go.Proofs.YtdcaafldnbcdkaaDoor.Class
open Go Go.Proofs.YtdcaafldnbcdkaaDoor Go.Proofs.YtdcaafldnbcdkaaDoor.Eng Go.Proofs Go.Proofs.YtdcaafldnbcdkaaDoor.Word Go.Proofs.YtdcaafldnbcdkaaDoor.Fmt
open Go.Proofs.YtdcaafldnbcdkaaDoor.Pool (Ent at_ poolF strV entC entV EntOk Pl OkPool both own_low tagAt)
set_option maxRecDepth 10000

theorem fz0 {w : World} {b : Nat} {arr : Array Value} {ty : TypeId} (h : w.heap[b]? = some (.cells arr ty (0, 0))) : w.frozen? ⟨b, 0, none⟩ = false := frozen_of_row w b 0 _ _ h
theorem st0 {w : World} {g : Nat} {arr : Array Value} {t : TypeId} {v : Value} {K : World → Prop} (hb : w.heap[g]? = some (.cells arr t (0, 0))) (hj : 0 < arr.size)
    (k : ∀ w', w'.heap[g]? = some (.cells (arr.setIfInBounds 0 v) t (0, 0)) → Mod (fun b => b = g) w w' → w'.heap.size = w.heap.size → K w') : K (w.setCell ⟨g, 0, none⟩ v) := (stB0 hb hj k).2.2
section
variable {w w' w1 w2 : World} {base h g L : Nat} {p : Po} {v v' v1 v2 : Value} {t t2 : WT}
/-- Another one's blocks change. -/
theorem Wi.other {S : Nat → Prop} (c : Wi w1 base p h g v t) (m : Mod S w1 w2) (hS : ∀ b, b < w1.heap.size → S b → base ≤ b ∧ ¬ WH h g v b) : Wi w2 base p h g v t := by
  have hl := c.lt
  refine ⟨m.blk c.blk fun e => (hS _ hl.1 e).2 (.inr rfl), wr_mod c.wr m (fun e => (hS _ hl.2 e).2 (.inl (.inl rfl))) (fun b hb e => ?_), c.ne, c.off, c.bh, c.bg, c.cx.mod m fun b hb e => (hS b hb e).1⟩
  have hb2 := (c.wr.vlt hb).2
  exact (hS b hb2 e).2 (.inl (.inr hb.symm))
/-- What a writer's act leaves, where the last place's number changes too. -/
structure Kl (w : World) (base : Nat) (p : Po) (h g : Nat) (v : Value) (L : Nat) (w' : World) (v' : Value) (t : WT) : Prop where
  wi : Wi w' base p h g v' t
  mod : Mod (fun b => WH h g v b ∨ b = L) w w'
  st : stayed w v v'
theorem Kl.of (k : Ki w base p h g v w' v' t) : Kl w base p h g v L w' v' t := ⟨k.wi, k.mod.mono fun _ _ e => .inl e, k.st⟩
theorem Kl.then (c : Kl w base p h g v L w1 v1 t) (k : Kl w1 base p h g v1 L w2 v2 t2) : Kl w base p h g v L w2 v2 t2 := by
  refine ⟨k.wi, Mod.trans c.mod k.mod ?_, stayed.trans c.st c.mod.size k.st⟩
  rintro b hb (((e | e) | e) | e)
  · exact .inl (.inl (.inl e))
  · rcases c.st b e.symm with h1 | h1
    · exact .inl (.inl (.inr h1.symm))
    · omega
  · exact .inl (.inr e)
  · exact .inr e
theorem Kl.new (c : Kl w base p h g v L w' v' t) (n : New w' w2) : Kl w base p h g v L w2 v' t := ⟨c.wi.new n, Mod.trans c.mod n.mod fun _ _ e => False.elim e, c.st⟩
theorem Kl.set (k : Kl w base p h g v L w1 v' t) (m : Mod (fun b => b = L) w1 w2) (hb : base ≤ L) (hL : ¬ WH h g v' L) : Kl w base p h g v L w2 v' t :=
  ⟨k.wi.other m fun b _ e => by rw [e]; exact ⟨hb, hL⟩, Mod.trans k.mod m fun b _ e => .inr e, k.st⟩
theorem Kl.hid {t' : WT} (k : Kl w base p h g v L w' v' t') {b : Nat} (hb : b < w.heap.size) (hn : ¬ WH h g v b) : ¬ WH h g v' b := by
  rintro ((e | e) | e)
  · exact hn (.inl (.inl e))
  · rcases k.st b e.symm with h1 | h1
    · exact hn (.inl (.inr h1.symm))
    · omega
  · exact hn (.inr e)
theorem Kl.lrep {α : Type} {R : RepT α} {sz : Nat} {vl : Value} {xs : List α} {t : WT} (k : Kl w base p h g v L w' v' t) (hR : RepOk R sz) (hsz : 0 < sz) (hl : LRep R w (fun b => WH h g v b ∨ b = L) vl xs) : LRep R w' (fun b => WH h g v' b ∨ b = L) vl xs := by
  have h1 := LRep.weak (S' := fun b => (WH h g v b ∨ b = L) ∨ w.heap.size ≤ b) hR hl fun b hb e => e.resolve_right (by omega)
  refine LRep.weak hR (LRep.mod hR hsz h1 (k.mod.mono fun _ _ e => .inl e)) fun b _ e => ?_
  rcases e with ((e | e) | e) | e
  · exact .inl (.inl (.inl (.inl e)))
  · rcases k.st b e.symm with e1 | e1
    · exact .inl (.inl (.inl (.inr e1.symm)))
    · exact .inr e1
  · exact .inl (.inl (.inr e))
  · exact .inl (.inr e)
end
theorem good255 : good ((1 : Nat) : Int) false [255] = true := by decide
theorem map1_ok (p : Po) (base : Nat) (h g : Nat) (v : Value) (t : WT) (cs : List Value) (x : Mp) (X L : Nat) (last : Int) (w : World) (c : Wi w base p h g v t) (hO : OkPool p.l) (hX : w.heap[X]? = some (.cells #[.pointer (some ⟨h, 0, none⟩)] 78 (0, 0))) (hL : w.heap[L]? = some (.cells #[zi last] 3 (0, 0))) (hXn : ¬ WH h g v X) (hLn : ¬ WH h g v L) (hXL : X ≠ L) (hbL : base ≤ L) (hlast : -1 ≤ last ∧ last ≤ 65535)
    (hx : mpR w (fun b => WH h g v b ∨ b = L) cs x) (hm : t.1.length + cMp x ≤ 1000000000) :
    Calls Tryd.prog 106 #[.agg cs.toArray, .pointer (some ⟨X, 0, none⟩), .pointer (some ⟨L, 0, none⟩)] w fun e w' => e = .returned (.tuple #[]) ∧ ∃ v' t', Kl w base p h g v L w' v' t' ∧ Wri (mapT p.l last) (cMp x) t x t' ∧ (t'.2 = false → w'.heap[L]? = some (.cells #[zi x.at_] 3 (0, 0)) ∧ -1 ≤ x.at_ ∧ x.at_ ≤ 65535) := by
  obtain ⟨_, _, rfl, hl1, hl2⟩ := hx
  obtain ⟨A1, c1, rfl, hn1, _⟩ := hl1.get tyOk (by decide)
  obtain ⟨A2, c2, rfl, hn2, _⟩ := hl2.get tyOk (by decide)
  have hcost : cMp x = 7 + 3 * x.locals.length + 3 * x.stack.length := rfl
  have hXl : X < w.heap.size := (Array.getElem?_eq_some_iff.1 hX).1
  have hLl : L < w.heap.size := (Array.getElem?_eq_some_iff.1 hL).1
  obtain ⟨M, hM⟩ : ∃ M, M = w.heap.size := ⟨_, rfl⟩
  refine enter ok Tryd.func106 rfl rfl rfl ?_
  refine seq_cut (σ := Unit) (fun _ => [(1, .pointer (some ⟨X, 0, none⟩)), (2, .pointer (some ⟨L, 0, none⟩)), (3, .pointer (some ⟨M, 0, none⟩))]) (fun _ w' => New w w' ∧ w'.heap[M]? = some (.cells #[zi x.at_, .slice A1 x.locals.length c1, .slice A2 x.stack.length c2] 49 (0, 0))) ?_ ?_
  rotate_left
  · intro K hK
    rw [hM] at hK
    exact hK () _ _ ⟨rfl, rfl, rfl, trivial⟩ ⟨New.alloc w _, heap_alloc_new w (.cells #[zi x.at_, .slice A1 x.locals.length c1, .slice A2 x.stack.length c2] 49)⟩
  rintro _ w1 fr1 ⟨n1, hM1⟩
  have c1' := c.new n1
  have hX1 := n1.blk hX
  have hL1 := n1.blk hL
  have hMl : M < w1.heap.size := (Array.getElem?_eq_some_iff.1 hM1).1
  have hMn : ¬ WH h g v M := c.hi (by omega)
  have hs1 := n1.size
  have B0 : True := trivial
  refine seq_cut (σ := Bool) (fun _ => [(1, .pointer (some ⟨X, 0, none⟩)), (2, .pointer (some ⟨L, 0, none⟩)), (3, .pointer (some ⟨M, 0, none⟩))]) (fun b w' => Ki w1 base p h g v w' v (t.1, t.2 || !b) ∧ (b = true ↔ last < x.at_ ∧ x.at_ ≤ 65535)) ?_ ?_
  rotate_left
  · intro K hK
    refine Exists.intro (some ⟨h, 0, none⟩) (And.intro (cell0 hX1) ?_)
    refine Exists.intro x.at_ (And.intro (cellB hM1 rfl) ?_)
    refine Exists.intro last (And.intro (cell0 hL1) ?_)
    refine if_p (fun ha => ?_) (fun ha => ?_)
    · replace ha : last < x.at_ := ha
      refine Exists.intro x.at_ (And.intro (cellB hM1 rfl) ?_)
      refine call_ (must_ok base p h g v t (decide (x.at_ ≤ 65535)) w1 c1') ?_
      rintro e w2 ⟨rfl, k2⟩
      refine ⟨_, rfl, ?_⟩
      exact hK _ _ _ ⟨rfl, rfl, rfl, trivial⟩ ⟨k2, by rw [decide_eq_true_eq]; exact ⟨fun e => ⟨ha, e⟩, fun e => e.2⟩⟩
    · replace ha : ¬ last < x.at_ := ha
      refine call_ (must_ok base p h g v t false w1 c1') ?_
      rintro e w2 ⟨rfl, k2⟩
      refine ⟨_, rfl, ?_⟩
      exact hK false _ _ ⟨rfl, rfl, rfl, trivial⟩ ⟨k2, ⟨fun e => (by cases e), fun e => absurd e.1 ha⟩⟩
  rintro b w2 fr2 ⟨k2, hb⟩
  have hX2 := k2.blk hX1 hXn
  have hL2 := k2.blk hL1 hLn
  have hM2 := k2.blk hM1 hMn
  have k02 := ((Ki.refl c).new n1).then k2
  refine seq_cut (σ := Unit) (fun _ => [(1, .pointer (some ⟨X, 0, none⟩)), (2, .pointer (some ⟨L, 0, none⟩)), (3, .pointer (some ⟨M, 0, none⟩))]) (fun _ w' => w' = w2 ∧ (t.2 || !b) = false) ?_ ?_
  rotate_left
  · intro K hK
    refine Exists.intro (some ⟨h, 0, none⟩) (And.intro (cell0 hX2) ?_)
    refine Exists.intro (t.2 || !b) (And.intro (cellB k2.wi.blk rfl) ?_)
    refine if_ (fun hbad => ?_) (fun hbad => ?_)
    · exact ⟨rfl, v, _, Kl.of k02, Wri.pre (b := b) (Wri.bad hbad _ _) (fun o => hb.2 o.1), fun e => by dsimp only at e; rw [hbad] at e; cases e⟩
    · exact hK () _ _ ⟨rfl, rfl, rfl, trivial⟩ ⟨rfl, hbad⟩
  rintro _ wy fry ⟨hwy, hgood⟩
  obtain rfl := hwy.symm
  have hP : last < x.at_ ∧ x.at_ ≤ 65535 := hb.1 (by
    rw [Bool.or_eq_false_iff] at hgood
    have := hgood.2
    revert this
    cases b <;> decide)
  -- its mark
  refine seq_cut (σ := Value) (fun _ => [(1, .pointer (some ⟨X, 0, none⟩)), (2, .pointer (some ⟨L, 0, none⟩)), (3, .pointer (some ⟨M, 0, none⟩))]) (fun v' w' => Ki w2 base p h g v w' v' (noteU (t.1, t.2 || !b) 1 [255])) ?_ ?_
  rotate_left
  · intro K hK
    refine Exists.intro (some ⟨h, 0, none⟩) (And.intro (cell0 hX2) ?_)
    refine Exists.intro (some ⟨g, 0, none⟩) (And.intro (cellB k2.wi.blk rfl) ?_)
    refine call_ (WUn base p h g v (t.1, t.2 || !b) 1 255 w2 k2.wi (by dsimp only; omega)) ?_
    rintro e w3 ⟨rfl, v3, k3⟩
    refine ⟨_, rfl, ?_⟩
    rw [← noteU_good good255] at k3
    exact hK v3 _ _ ⟨rfl, rfl, rfl, trivial⟩ k3
  rintro v3 w3 fr3 k3
  have q1 : Wri Class.n1 1 (t.1, t.2 || !b) 255 (noteU (t.1, t.2 || !b) 1 [255]) := Wri.n1
  generalize noteU (t.1, t.2 || !b) 1 [255] = t3 at k3 q1
  have p1 := q1.1
  dsimp only at p1
  have k03 := k02.then k3
  have hX3 := k3.blk hX2 (k2.hid (by omega) hXn)
  have hL3 := k3.blk hL2 (k2.hid (by omega) hLn)
  have hM3 := k3.blk hM2 (k2.hid hMl hMn)
  -- how far
  have hz : IntKind.i64.wrap (IntKind.i64.wrap (x.at_ - last) - 1) = x.at_ - last - 1 := by
    rw [wrap_i64 (n := x.at_ - last) (by omega) (by omega), wrap_i64 (by omega) (by omega)]
  refine seq_cut (σ := Value) (fun _ => [(1, .pointer (some ⟨X, 0, none⟩)), (2, .pointer (some ⟨L, 0, none⟩)), (3, .pointer (some ⟨M, 0, none⟩))]) (fun v' w' => Ki w3 base p h g v3 w' v' (noteU t3 2 [x.at_ - last - 1])) ?_ ?_
  rotate_left
  · intro K hK
    refine Exists.intro (some ⟨h, 0, none⟩) (And.intro (cell0 hX3) ?_)
    refine Exists.intro x.at_ (And.intro (cellB hM3 rfl) ?_)
    refine Exists.intro last (And.intro (cell0 hL3) ?_)
    refine call_ (two1_ok base p h g v3 t3 [IntKind.i64.wrap (IntKind.i64.wrap (x.at_ - last) - 1)] 1 w3 k3.wi rfl (by simp; omega)) ?_
    rintro e w4 ⟨rfl, v4, k4⟩
    refine ⟨_, rfl, ?_⟩
    rw [hz] at k4
    exact hK v4 _ _ ⟨rfl, rfl, rfl, trivial⟩ k4
  rintro v4 w4 fr4 k4
  have q2 : Wri Class.n2 2 t3 (x.at_ - last - 1) (noteU t3 2 [x.at_ - last - 1]) := Wri.n2
  generalize noteU t3 2 [x.at_ - last - 1] = t4 at k4 q2
  have p2 := q2.1
  have k04 := k03.then k4
  have hs2 := k2.mod.size
  have hs3 := k3.mod.size
  have hX4 := k4.blk hX3 (k3.hid (by omega) (k2.hid (by omega) hXn))
  have hL4 := k4.blk hL3 (k3.hid (by omega) (k2.hid (by omega) hLn))
  have hM4 := k4.blk hM3 (k3.hid (by omega) (k2.hid hMl hMn))
  have hX4n := k04.hid hXl hXn
  have hL4n := k04.hid hLl hLn
  have hM4n : ¬ WH h g v4 M := k4.hid (by have := k3.mod.size; omega) (k3.hid (by omega) (k2.hid hMl hMn))
  -- the last place
  refine seq_cut (σ := Unit) (fun _ => [(1, .pointer (some ⟨X, 0, none⟩)), (2, .pointer (some ⟨L, 0, none⟩)), (3, .pointer (some ⟨M, 0, none⟩))]) (fun _ w' => Mod (fun b => b = L) w4 w' ∧ w'.heap[L]? = some (.cells #[zi x.at_] 3 (0, 0))) ?_ ?_
  rotate_left
  · intro K hK
    refine Exists.intro x.at_ (And.intro (cellB hM4 rfl) ?_)
    refine And.intro ⟨_, cell0 hL4⟩ (And.intro (fz0 hL4) (force_ ?_))
    refine st0 hL4 (show (0 : Nat) < 1 by decide) ?_
    intro w5 hL5 m5 s5
    exact hK () _ _ ⟨rfl, rfl, rfl, trivial⟩ ⟨m5, hL5⟩
  rintro _ w5 fr5 ⟨m5, hL5⟩
  have k05 := (Kl.of (L := L) k04).set m5 hbL hL4n
  have hX5 := m5.blk hX4 hXL
  have hM5 := m5.blk hM4 (show ¬ M = L by omega)
  have c5 := k05.wi
  have hl51 := LRep.weak (S' := WH h g v4) tyOk (k05.lrep tyOk (by decide) hl1) (fun b _ e => .inl e)
  have hl52 := LRep.weak (S' := WH h g v4) tyOk (k05.lrep tyOk (by decide) hl2) (fun b _ e => .inl e)
  have hs4 := k4.mod.size
  have hs5 := m5.size
  -- its locals
  refine seq_cut (σ := Value × WT) (fun _ => [(1, .pointer (some ⟨X, 0, none⟩)), (2, .pointer (some ⟨L, 0, none⟩)), (3, .pointer (some ⟨M, 0, none⟩))]) (fun s w' => Ki w5 base p h g v4 w' s.1 s.2 ∧ Wri (lcsT p.l) (2 + 3 * x.locals.length) t4 x.locals s.2 ∧ w'.heap[X]? = some (.cells #[.pointer (some ⟨h, 0, none⟩)] 78 (0, 0)) ∧ w'.heap[M]? = some (.cells #[zi x.at_, .slice A1 x.locals.length c1, .slice A2 x.stack.length c2] 49 (0, 0))) ?_ ?_
  rotate_left
  · intro K hK
    refine draw_ (w := w5) ok (.q 0 (.q 1 (.q 2 (.q 3 (.q 5 (.q 6 (.e 4 (.e 7 .done)))))))) [7] (fun w'' : World => w''.heap[X]? = some (.cells #[.pointer (some ⟨h, 0, none⟩)] 78 (0, 0)) ∧ w''.heap[M]? = some (.cells #[zi x.at_, .slice A1 x.locals.length c1, .slice A2 x.stack.length c2] 49 (0, 0))) (by kernel_rfl) (by kernel_rfl) (by kernel_rfl) (by kernel_rfl) (by kernel_rfl) ⟨(New.drew w5).blk hX5, (New.drew w5).blk hM5⟩ ?_
    refine Exists.intro (some ⟨h, 0, none⟩) (And.intro (fun w'' hw => cell0 hw.1) ?_)
    refine Exists.intro (some ⟨h, 0, none⟩) (And.intro (fun w'' hw => cell0 hw.1) ?_)
    refine Exists.intro A1 (Exists.intro x.locals.length (Exists.intro c1 (And.intro (fun w'' hw => cellB hw.2 rfl) ?_)))
    refine Exists.intro (some ⟨h, 0, none⟩) (And.intro (fun w'' hw => cell0 hw.1) ?_)
    have nd := New.drew w5
    have kd := (Ki.refl c5).new nd
    refine call_ (locals_ok p base h g v4 t4 _ x.locals w5.drew kd.wi (kd.lrep tyOk (by decide) hl51) (by omega)) ?_
    rintro e w6 ⟨u, b6, rfl, hu, k6, hb6⟩
    refine ⟨_, rfl, ?_⟩
    have k56 := kd.then k6
    have hX6 := k56.blk hX5 hX4n
    have hM6 := k56.blk hM5 hM4n
    refine Exists.intro (fun w'' : World => w''.heap[X]? = some (.cells #[.pointer (some ⟨h, 0, none⟩)] 78 (0, 0)) ∧ w''.heap[M]? = some (.cells #[zi x.at_, .slice A1 x.locals.length c1, .slice A2 x.stack.length c2] 49 (0, 0))) ?_
    refine And.intro (fun _ h => h) ?_
    refine And.intro ⟨hX6, hM6⟩ ?_
    have hol := locOut_len false x.locals
    have hcs := csum_const (f := cTy) (n := 3) (fun _ => rfl) (locOut false x.locals)
    refine call_ (list_ty p base h g v4 (t4.1, t4.2 || !b6) u (locOut false x.locals) w6 k56.wi hO (LRep.weak tyOk hu fun _ _ e => e) (by dsimp only; omega)) ?_
    rintro e w7 ⟨rfl, v7, t7, k7, wr7⟩
    refine ⟨_, rfl, ?_⟩
    have hs6 := k56.mod.size
    refine hK (v7, t7) _ _ ⟨rfl, rfl, rfl, trivial⟩ ⟨k56.then k7, ?_, k7.blk hX6 (k56.hid (by omega) hX4n), k7.blk hM6 (k56.hid (by omega) hM4n)⟩
    exact Wri.le (Wri.by (p := b6) wr7 rfl hb6) (by omega)
  rintro ⟨v7, t7⟩ w7 fr7 ⟨k7, q3, hX7, hM7⟩
  dsimp only at k7 q3
  have p3 := q3.1
  have hcs := csum_const (f := cTy) (n := 3) (fun _ => rfl) x.stack
  -- its stack
  refine Exists.intro (some ⟨h, 0, none⟩) (And.intro (cell0 hX7) ?_)
  refine Exists.intro A2 (Exists.intro x.stack.length (Exists.intro c2 (And.intro (cellB hM7 rfl) ?_)))
  refine Exists.intro (some ⟨h, 0, none⟩) (And.intro (cell0 hX7) ?_)
  refine call_ (list_ty p base h g v7 t7 _ x.stack w7 k7.wi hO (k7.lrep tyOk (by decide) hl52) (by omega)) ?_
  rintro e w8 ⟨rfl, v8, t8, k8, q4⟩
  refine ⟨_, rfl, ?_⟩
  refine ⟨rfl, v8, t8, (k05.then (Kl.of k7)).then (Kl.of k8), ?_, fun _ => ⟨k8.blk (k7.blk hL5 hL4n) (k7.hid (by omega) hL4n), by omega, hP.2⟩⟩
  have := Wri.by (p := b) (P := fun m : Mp => last < m.at_ ∧ m.at_ ≤ 65535) (f := fun m : Mp => (255, m.at_ - last - 1, m.locals, m.stack)) (hf := fun x y _ _ e => by
    cases x; cases y
    simp only [Prod.mk.injEq] at e
    simp only [Mp.mk.injEq]
    exact ⟨by omega, e.2.2.1, e.2.2.2⟩) (q1.seq (q2.seq (q3.seq q4))) rfl hb
  refine Wri.le (d := cMp x) this ?_
  rw [hcost]
  omega
theorem list_map (p : Po) (base : Nat) (h g : Nat) (v : Value) (t : WT) (vl : Value) (xs : List Mp) (X L : Nat)  (w : World) (c : Wi w base p h g v t) (hO : OkPool p.l) (hl : LRep mpR w (fun b => WH h g v b ∨ b = L) vl xs) (hX : w.heap[X]? = some (.cells #[.pointer (some ⟨h, 0, none⟩)] 78 (0, 0))) (hL : w.heap[L]? = some (.cells #[zi (-1)] 3 (0, 0))) (hXn : ¬ WH h g v X) (hLn : ¬ WH h g v L) (hXL : X ≠ L) (hbL : base ≤ L)  (hm : t.1.length + (2 + csum cMp xs) ≤ 1000000000) :
    Calls Tryd.prog 105 #[.pointer (some ⟨h, 0, none⟩), vl, zi 256, .func (.func 106) #[] #[.pointer (some ⟨X, 0, none⟩), .pointer (some ⟨L, 0, none⟩)]] w fun e w' => e = .returned (.tuple #[]) ∧ ∃ v' t', Kl w base p h g v L w' v' t' ∧ Wri (mapsT p.l) (2 + csum cMp xs) t xs t' := by
  obtain ⟨Al, cl, rfl, h43, _⟩ := hl.get mpOk (by decide)
  refine enter ok Tryd.func105 rfl rfl rfl ?_
  refine seq_cut (σ := Unit) (fun _ => [(0, .pointer (some ⟨h, 0, none⟩)), (1, .slice Al xs.length cl), (3, .func (.func 106) #[] #[.pointer (some ⟨X, 0, none⟩), .pointer (some ⟨L, 0, none⟩)])]) (fun _ w' => Ki w base p h g v w' v (t.1, t.2 || !decide (xs.length ≤ 256))) ?_ ?_
  rotate_left
  · intro K hK
    refine call_ (must_ok base p h g v t (decide ((xs.length : Int) ≤ 256)) w c) ?_
    rintro e w1 ⟨rfl, k1⟩
    refine ⟨_, rfl, ?_⟩
    have e1 : decide ((xs.length : Int) ≤ 256) = decide (xs.length ≤ 256) := decide_eq_decide.2 (by omega)
    rw [e1] at k1
    exact hK () _ _ ⟨rfl, rfl, rfl, trivial⟩ k1
  rintro _ w1 fr1 k1
  refine seq_cut (σ := Value × WT) (fun _ => [(0, .pointer (some ⟨h, 0, none⟩)), (1, .slice Al xs.length cl), (3, .func (.func 106) #[] #[.pointer (some ⟨X, 0, none⟩), .pointer (some ⟨L, 0, none⟩)])]) (fun s w' => Ki w base p h g v w' s.1 s.2 ∧ Wri n2 2 (t.1, t.2 || !decide (xs.length ≤ 256)) (xs.length : Int) s.2) ?_ ?_
  rotate_left
  · intro K hK
    refine Exists.intro (t.2 || !decide (xs.length ≤ 256)) (And.intro (cellB k1.wi.blk rfl) ?_)
    cases hbad : (t.2 || !decide (xs.length ≤ 256)) with
    | true =>
      rw [hbad] at k1 hK
      exact hK (v, (t.1, true)) _ _ ⟨rfl, rfl, rfl, trivial⟩ ⟨k1, Wri.bad rfl _ _⟩
    | false =>
      rw [hbad] at k1 hK
      refine call_ (two1_ok base p h g v (t.1, false) [(xs.length : Int)] 1 w1 k1.wi rfl (by simp; omega)) ?_
      rintro e w2 ⟨rfl, v2, k2⟩
      refine ⟨_, rfl, ?_⟩
      exact hK (v2, _) _ _ ⟨rfl, rfl, rfl, trivial⟩ ⟨k1.then k2, Wri.n2⟩
  rintro ⟨v2, t2⟩ w2 fr2 ⟨k2, wr2⟩
  dsimp only at k2 wr2
  refine seq_cut (σ := Unit) (fun _ => [(0, .pointer (some ⟨h, 0, none⟩)), (3, .func (.func 106) #[] #[.pointer (some ⟨X, 0, none⟩), .pointer (some ⟨L, 0, none⟩)]), (26, .slice Al xs.length cl), (27, zi (xs.length : Int)), (28, zi 0)]) (fun _ w' => w' = w2) ?_ ?_
  rotate_left
  · intro K hK
    exact hK () _ _ ⟨rfl, rfl, rfl, rfl, rfl, trivial⟩ rfl
  rintro _ wy fry hwy
  obtain rfl := hwy.symm
  have hXw : X < w.heap.size := (Array.getElem?_eq_some_iff.1 hX).1
  have hLw : L < w.heap.size := (Array.getElem?_eq_some_iff.1 hL).1
  refine den_loop (σ := Nat × Value × WT × Int) (fun s => [(0, .pointer (some ⟨h, 0, none⟩)), (3, .func (.func 106) #[] #[.pointer (some ⟨X, 0, none⟩), .pointer (some ⟨L, 0, none⟩)]), (26, .slice Al xs.length cl), (27, zi (xs.length : Int)), (28, zi (s.1 : Int))])
    (fun m s wl => m + s.1 = xs.length ∧ Kl w base p h g v L wl s.2.1 s.2.2.1 ∧ wl.heap[X]? = some (.cells #[.pointer (some ⟨h, 0, none⟩)] 78 (0, 0)) ∧ (s.2.2.1.2 = false → wl.heap[L]? = some (.cells #[zi s.2.2.2] 3 (0, 0)) ∧ -1 ≤ s.2.2.2 ∧ s.2.2.2 ≤ 65535) ∧ WMs p.l t xs s.1 s.2.2.2 s.2.2.1) xs.length (0, v2, t2, -1) ⟨rfl, rfl, rfl, rfl, rfl, trivial⟩ ⟨rfl, Kl.of k2, k2.blk hX hXn, fun _ => ⟨k2.blk hL hLn, by dsimp only; omega, by dsimp only; omega⟩, WMs.start wr2⟩ ?_
  rintro m ⟨i, v3, t3, last⟩ wl frl ⟨hfuel, kl, hXl, hLl, hw⟩
  dsimp only at hfuel kl hLl hw
  refine if_p (fun hlt => ?_) (fun hge => ?_)
  · replace hlt : (i : Int) < (xs.length : Int) := hlt
    have hi : i < xs.length := by omega
    obtain ⟨m, rfl⟩ : ∃ m', m = m' + 1 := ⟨m - 1, by omega⟩
    have inc := incN hi h43
    obtain ⟨Al', cl', he, _, gx⟩ := (kl.lrep mpOk (by decide) hl).get mpOk (by decide)
    cases he
    obtain ⟨a, cs, ea, hx, hc⟩ := gx i hi
    have hcs : csum cMp (xs.take i) + cMp xs[i] ≤ csum cMp xs := by
      have h1 := csum_le cMp xs (i + 1)
      rw [List.take_succ_eq_append_getElem hi, csum_snoc] at h1
      exact h1
    have hw1 := hw.1
    have hmem : xs[i] ∈ xs := List.getElem_mem hi
    obtain ⟨y, hy⟩ : ∃ y, y = xs[i] := ⟨_, rfl⟩
    rw [← hy] at hx hcs hmem
    have hx0 := hx
    obtain ⟨_, _, rfl, hy1, hy2⟩ := hx
    obtain ⟨A1, c1, rfl, _⟩ := hy1.get tyOk (by decide)
    obtain ⟨A2, c2, rfl, _⟩ := hy2.get tyOk (by decide)
    refine And.intro (by omega) (And.intro hlt ?_)
    refine some_at ea ?_
    refine loadN_row (vs := [zi y.at_, .slice A1 y.locals.length c1, .slice A2 y.stack.length c2]) (fun j u hu => by rw [Int.toNat_natCast]; exact hc j u hu) rfl ?_
    refine And.intro rfl ?_
    refine storeNew (vs := [zi y.at_, .slice A1 y.locals.length c1, .slice A2 y.stack.length c2]) (arr := #[zi 0, .slice none 0 0, .slice none 0 0]) rfl (mpOk.one hx0) ?_
    intro w5 hb5 n5 s5
    have k5 := kl.new n5
    refine Exists.intro t3.2 (And.intro (cellB k5.wi.blk rfl) ?_)
    refine if_ (fun hbad => ?_) (fun hbad => ?_)
    · exact ⟨rfl, v3, t3, k5, hw.stop hbad⟩
    refine skip_ (thenF_ ?_)
    refine loadN_row (vs := [zi y.at_, .slice A1 y.locals.length c1, .slice A2 y.stack.length c2]) (rowB hb5) rfl ?_
    refine call_ (map1_ok p base h g v3 t3 _ y X L last w5 k5.wi hO (n5.blk hXl) (n5.blk (hLl hbad).1) (kl.hid hXw hXn) (kl.hid hLw hLn) hXL hbL (hLl hbad).2 (mpOk.mod hx0 n5.mod) (by omega)) ?_
    rintro e w6 ⟨rfl, v6, t6, k6, wr6, hl6⟩
    refine ⟨_, rfl, ?_⟩
    exact ⟨m, (i + 1, v6, t6, y.at_), by omega, ⟨rfl, rfl, rfl, rfl, inc, trivial⟩, by dsimp only; omega, k5.then k6, k6.mod.blk (n5.blk hXl) (fun e => e.elim (kl.hid hXw hXn) hXL), hl6, (by dsimp only; rw [hy]; exact hw.step hi (by rw [← hy]; exact wr6))⟩
  · replace hge : ¬ (i : Int) < (xs.length : Int) := hge
    obtain rfl : i = xs.length := by omega
    exact ⟨rfl, v3, t3, kl, hw.done⟩

theorem maps_ok (p : Po) (base : Nat) (h g : Nat) (v : Value) (t : WT) (vl : Value) (xs : List Mp) (w : World) (c : Wi w base p h g v t) (hO : OkPool p.l) (hl : LRep mpR w (WH h g v) vl xs) (hm : t.1.length + (2 + csum cMp xs) ≤ 1000000000) :
    Calls Tryd.prog 79 #[.pointer (some ⟨h, 0, none⟩), vl] w fun e w' => e = .returned (.tuple #[]) ∧ ∃ v' t', Ki w base p h g v w' v' t' ∧ Wri (mapsT p.l) (2 + csum cMp xs) t xs t' := by
  obtain ⟨Al, cl, rfl, h43, _⟩ := hl.get mpOk (by decide)
  refine enter ok Tryd.func79 rfl rfl rfl ?_
  refine seq_cut (σ := Nat) (fun X => [(1, .slice Al xs.length cl), (2, .pointer (some ⟨X, 0, none⟩))]) (fun X w' => New w w' ∧ w.heap.size ≤ X ∧ w'.heap[X]? = some (.cells #[.pointer (some ⟨h, 0, none⟩)] 78 (0, 0))) ?_ ?_
  rotate_left
  · intro K hK
    exact hK w.heap.size _ _ ⟨rfl, rfl, trivial⟩ ⟨New.alloc w _, Nat.le_refl _, heap_alloc_new w (.cells #[.pointer (some ⟨h, 0, none⟩)] 78)⟩
  rintro X w1 fr1 ⟨n1, hXw, hX⟩
  have hXl : X < w1.heap.size := (Array.getElem?_eq_some_iff.1 hX).1
  refine seq_cut (σ := Nat) (fun L => [(1, .slice Al xs.length cl), (2, .pointer (some ⟨X, 0, none⟩)), (4, .pointer (some ⟨L, 0, none⟩))]) (fun L w' => New w1 w' ∧ w1.heap.size ≤ L ∧ w'.heap[L]? = some (.cells #[zi (-1)] 3 (0, 0))) ?_ ?_
  rotate_left
  · intro K hK
    have n2 := New.alloc w1 (.cells #[zi 0] 3)
    have hb2 := heap_alloc_new w1 (.cells #[zi 0] 3)
    refine And.intro ⟨_, cell0 hb2⟩ (And.intro (fz0 hb2) (force_ ?_))
    refine st0 hb2 (show (0 : Nat) < 1 by decide) ?_
    intro w2 hb m2 s2
    exact hK w1.heap.size _ _ ⟨rfl, rfl, rfl, trivial⟩ ⟨New.made m2, Nat.le_refl _, hb⟩
  rintro L w2 fr2 ⟨n2, hLw, hL⟩
  have n02 := n1.trans n2
  have k2 := (Ki.refl c).new n02
  have hz1 := n1.size
  have hbw := c.bw
  refine Exists.intro (some ⟨h, 0, none⟩) (And.intro (cell0 (n2.blk hX)) ?_)
  have hXn : ¬ WH h g v X := c.hi hXw
  have hLn : ¬ WH h g v L := c.hi (by omega)
  have hl2 : LRep mpR w2 (fun b => WH h g v b ∨ b = L) (.slice Al xs.length cl) xs := by
    have h1 := LRep.weak (S' := fun b => WH h g v b ∨ b = L) mpOk hl fun b hb e => e.resolve_right (by omega)
    exact LRep.mod mpOk (by decide) h1 (n02.mod.mono fun _ _ e => False.elim e)
  refine call_ (list_map p base h g v t _ xs X L w2 k2.wi hO hl2 (n2.blk hX) hL hXn hLn (by omega) (by omega) hm) ?_
  rintro e w3 ⟨rfl, v3, t3, k3, wr3⟩
  refine ⟨_, rfl, ?_⟩
  refine ⟨rfl, v3, t3, ⟨k3.wi, Mod.trans n02.mod k3.mod fun b hb e => ?_, stayed.trans (stayed.refl w v) n02.size k3.st⟩, wr3⟩
  rcases e with e | e
  · exact e
  · omega

end Go.Proofs.YtdcaafldnbcdkaaDoor.Class

/-! ### KRead5 -/
namespace Go.Proofs.YtdcaafldnbcdkaaDoor.Class
open Go Go.Proofs.YtdcaafldnbcdkaaDoor Go.Proofs.YtdcaafldnbcdkaaDoor.Eng Go.Proofs Go.Proofs.YtdcaafldnbcdkaaDoor.Word Go.Proofs.YtdcaafldnbcdkaaDoor.Fmt
open Go.Proofs.YtdcaafldnbcdkaaDoor.Pool (rd_modN rd_low RS Ent at_ poolF strV entC entV EntOk Pl OkPool both own_low tagAt)
set_option maxRecDepth 10000

theorem i64_wrap (z : Int) : i64 (IntKind.i64.wrap z) := by
  rw [IntKind.wrap_i64]
  unfold i64
  omega
theorem rd_far {bs : List UInt8} {s s1 : RSt} {n last : Int} (h : Rd Class.n2 bs s n s1) (hl : i64 last) (hn : 0 ≤ n ∧ n < 65536) : RdS Class.n2 (fun m => last + 1 + m ≤ 65535) bs s (IntKind.i64.wrap (last + IntKind.i64.wrap (1 + n)) - last - 1) s1 := by
  refine ⟨h.1, h.2.1, fun hs y q hy ho e => ?_⟩
  obtain ⟨h1, h2, h3⟩ := h.2.2 hs y q ho e
  unfold i64 at hl
  rw [wrap_i64 (n := 1 + n) (by omega) (by omega), wrap_i64 (by omega) (by omega)]
  exact ⟨by omega, h2, h3⟩
theorem rmap_ok (h g : Nat) (A : Option Addr) (c : Nat) (bs : List UInt8) (p : Po) (s : RSt) (w : World) (q : Ir w h g A c bs p s) (hO : OkPool p.l) (X L : Nat) (last : Int) (hX : w.heap[X]? = some (.cells #[.pointer (some ⟨h, 0, none⟩)] 104 (0, 0))) (hXn : ¬ RS h g X) (hL : w.heap[L]? = some (.cells #[zi last] 3 (0, 0))) (hLn : ∀ b, Iin h g A bs p b → b ≠ L) (hXL : X ≠ L) (hil : i64 last) (hm : bs.length ≤ 1000000) :
    Calls Tryd.prog 94 #[.pointer (some ⟨X, 0, none⟩), .pointer (some ⟨L, 0, none⟩)] w fun e w' => ∃ cs x s', e = .returned (.agg (List.toArray cs)) ∧ mpR w' (fun b => b < w.heap.size) cs x ∧ Rd (mapT p.l last) bs s x s' ∧ cMp x ≤ 6 * (s'.1 - s.1) + 16 ∧ On s s' ∧ Ir w' h g A c bs p s' ∧ Mod (fun b => RS h g b ∨ b = L) w w' ∧ w'.heap[L]? = some (.cells #[zi x.at_] 3 (0, 0)) ∧ i64 x.at_ := by
  refine enter ok Tryd.func94 rfl rfl rfl ?_
  obtain ⟨V, hV⟩ : ∃ V, V = w.heap.size := ⟨_, rfl⟩
  have hXl : X < w.heap.size := (Array.getElem?_eq_some_iff.1 hX).1
  have hLl : L < w.heap.size := (Array.getElem?_eq_some_iff.1 hL).1
  have hLr : ¬ RS h g L := fun e => by
    rcases e with e | e
    · exact hLn _ (.inr (.inl rfl)) e.symm
    · exact hLn _ (.inl rfl) e.symm
  refine seq_cut (σ := Unit) (fun _ => [(0, .pointer (some ⟨X, 0, none⟩)), (1, .pointer (some ⟨L, 0, none⟩)), (2, .pointer (some ⟨V, 0, none⟩))]) (fun _ w' => New w w' ∧ w'.heap[V]? = some (.cells #[zi 0, .slice none 0 0, .slice none 0 0] 49 (0, 0))) ?_ ?_
  rotate_left
  · intro K hK
    rw [hV] at hK
    exact hK () _ _ ⟨rfl, rfl, rfl, trivial⟩ ⟨New.alloc w _, heap_alloc_new w (.cells #[zi 0, .slice none 0 0, .slice none 0 0] 49)⟩
  rintro _ w0 fr0 ⟨n0, hV0⟩
  have q0 := q.new n0
  have hX0 := n0.blk hX
  have hL0 := n0.blk hL
  have hVn : ∀ b, Iin h g A bs p b → b ≠ V := fun b hb e => by have := q.lt hb; omega
  have hVr : ¬ RS h g V := fun e => by
    rcases e with e | e
    · exact hVn _ (.inr (.inl rfl)) e.symm
    · exact hVn _ (.inl rfl) e.symm
  have hVl : V < w0.heap.size := (Array.getElem?_eq_some_iff.1 hV0).1
  have hz0 := n0.size
  refine seq_cut (σ := Int) (fun _ => [(0, .pointer (some ⟨X, 0, none⟩)), (1, .pointer (some ⟨L, 0, none⟩)), (2, .pointer (some ⟨V, 0, none⟩))]) (fun n w' => ∃ s1, Rd Class.n1 bs s n s1 ∧ On s s1 ∧ Ir w' h g A c bs p s1 ∧ Mod (RS h g) w0 w') ?_ ?_
  rotate_left
  · intro K hK
    refine Exists.intro (some ⟨h, 0, none⟩) (And.intro (cell0 hX0) ?_)
    refine call_ (u_ok h g A c bs p s 1 Pool.w1 w0 q0) ?_
    rintro e w1 ⟨n, s1, rfl, r1, hb1, o1, q1, m1⟩
    refine ⟨_, rfl, ?_⟩
    exact hK n _ _ ⟨rfl, rfl, rfl, trivial⟩ ⟨s1, r1, o1, q1, m1⟩
  rintro m1' w1 fr1 ⟨s1, r1, o1, q1, m1⟩
  have hX1 := m1.blk hX0 hXn
  have hL1 := m1.blk hL0 hLr
  have hV1 := m1.blk hV0 hVr
  have hz1 := m1.size
  refine seq_cut (σ := Int) (fun _ => [(0, .pointer (some ⟨X, 0, none⟩)), (1, .pointer (some ⟨L, 0, none⟩)), (2, .pointer (some ⟨V, 0, none⟩))]) (fun n w' => ∃ s2, Rd Class.n2 bs s1 n s2 ∧ (0 ≤ n ∧ n < 65536) ∧ On s1 s2 ∧ Ir w' h g A c bs p s2 ∧ Mod (fun b => RS h g b ∨ b = L) w1 w' ∧ w'.heap[X]? = some (.cells #[.pointer (some ⟨h, 0, none⟩)] 104 (0, 0)) ∧ w'.heap[V]? = some (.cells #[zi 0, .slice none 0 0, .slice none 0 0] 49 (0, 0)) ∧ w'.heap[L]? = some (.cells #[zi (IntKind.i64.wrap (last + IntKind.i64.wrap (1 + n)))] 3 (0, 0))) ?_ ?_
  rotate_left
  · intro K hK
    have nd := New.drew w1
    refine draw_ (w := w1) ok (.q 0 (.q 1 (.e 2 (.q 3 (.q 4 (.e 5 .done)))))) [5] (fun w'' : World => w''.heap[L]? = some (.cells #[zi last] 3 (0, 0)) ∧ w''.heap[X]? = some (.cells #[.pointer (some ⟨h, 0, none⟩)] 104 (0, 0))) (by kernel_rfl) (by kernel_rfl) (by kernel_rfl) (by kernel_rfl) (by kernel_rfl) ⟨nd.blk hL1, nd.blk hX1⟩ ?_
    refine Exists.intro last (And.intro (fun w'' hw => cell0 hw.1) ?_)
    refine Exists.intro (some ⟨h, 0, none⟩) (And.intro (fun w'' hw => cell0 hw.2) ?_)
    refine call_ (u_ok h g A c bs p s1 2 Pool.w2 w1.drew (q1.new nd)) ?_
    rintro e wa ⟨na, sa, rfl, ra, hba, oa, qa, ma⟩
    refine ⟨_, rfl, ?_⟩
    have hLa := ma.blk (nd.blk hL1) hLr
    have hXa := ma.blk (nd.blk hX1) hXn
    refine Exists.intro (fun w'' : World => w''.heap[L]? = some (.cells #[zi last] 3 (0, 0)) ∧ w''.heap[X]? = some (.cells #[.pointer (some ⟨h, 0, none⟩)] 104 (0, 0))) ?_
    refine And.intro (fun _ h => h) ?_
    refine And.intro ⟨hLa, hXa⟩ ?_
    refine And.intro ⟨_, cell0 hLa⟩ (And.intro (fz0 hLa) (force_ ?_))
    refine st0 hLa (show (0 : Nat) < 1 by decide) ?_
    intro wb hLb mb sb
    exact hK na _ _ ⟨rfl, rfl, rfl, trivial⟩ ⟨sa, ra, hba, oa, qa.modN mb (fun b hb e => hLn b hb e), Mod.trans (Mod.trans nd.mod (ma.mono fun _ _ e => .inl e) fun _ _ e => e) mb fun _ _ e => .inr e, mb.blk hXa hXL, mb.blk (ma.blk (nd.blk hV1) hVr) (show ¬ V = L by omega), hLb⟩
  rintro n2 w2 fr2 ⟨s2, r2, hb2, o2, q2, m2, hX2, hV2, hL2⟩
  have rf := rd_far r2 hil hb2
  have hi2 := i64_wrap (last + IntKind.i64.wrap (1 + n2))
  generalize IntKind.i64.wrap (last + IntKind.i64.wrap (1 + n2)) = at2 at rf hi2 hL2
  have hz2 := m2.size
  refine seq_cut (σ := Nat) (fun E => [(0, .pointer (some ⟨X, 0, none⟩)), (1, .pointer (some ⟨L, 0, none⟩)), (2, .pointer (some ⟨V, 0, none⟩)), (3, .pointer (some ⟨E, 0, none⟩))]) (fun E w' => New w2 w' ∧ w2.heap.size ≤ E ∧ w'.heap[E]? = some (.cells #[zi at2, .slice none 0 0, .slice none 0 0] 49 (0, 0))) ?_ ?_
  rotate_left
  · intro K hK
    refine Exists.intro at2 (And.intro (cell0 hL2) ?_)
    refine And.intro rfl ?_
    refine storeNew (vs := [zi at2, .slice none 0 0, .slice none 0 0]) (arr := #[zi 0, .slice none 0 0, .slice none 0 0]) rfl (fun u hu => by
      simp only [List.mem_cons, List.not_mem_nil, or_false] at hu
      rcases hu with rfl | rfl | rfl <;> rfl) ?_
    intro w3 hb3 n3 s3
    exact hK w2.heap.size _ _ ⟨rfl, rfl, rfl, rfl, trivial⟩ ⟨n3, Nat.le_refl _, hb3⟩
  rintro E w3 fr3 ⟨n3, hEw, hE3⟩
  have q3 := q2.new n3
  have hX3 := n3.blk hX2
  have hV3 := n3.blk hV2
  have hL3 := n3.blk hL2
  have hE0 : ∀ b, Iin h g A bs p b → b ≠ E := fun b hb e => by have := q2.lt hb; omega
  have hEr : ¬ RS h g E := fun e => by
    rcases e with e | e
    · exact hE0 _ (.inr (.inl rfl)) e.symm
    · exact hE0 _ (.inl rfl) e.symm
  have hEl : E < w3.heap.size := (Array.getElem?_eq_some_iff.1 hE3).1
  have hz3 := n3.size
  have hrsl : ∀ b, RS h g b → b < w.heap.size := fun b e => q.lt (by rcases e with e | e; exact .inr (.inl e); exact .inl e)
  -- its locals
  refine seq_cut (σ := (Option Addr × Nat) × List Ty) (fun _ => [(0, .pointer (some ⟨X, 0, none⟩)), (1, .pointer (some ⟨L, 0, none⟩)), (2, .pointer (some ⟨V, 0, none⟩)), (3, .pointer (some ⟨E, 0, none⟩))]) (fun t w' => ∃ s4, Rd (lcsT p.l) bs s2 t.2 s4 ∧ t.2.length ≤ 2 * ((s4.1 - s2.1) + 1) ∧ On s2 s4 ∧ LRep tyR w' (fun b => b < w3.heap.size) (.slice t.1.1 t.2.length t.1.2) t.2 ∧ Ir w' h g A c bs p s4 ∧ Mod (fun b => RS h g b ∨ b = E) w3 w' ∧ w'.heap[X]? = some (.cells #[.pointer (some ⟨h, 0, none⟩)] 104 (0, 0)) ∧ w'.heap[L]? = some (.cells #[zi at2] 3 (0, 0)) ∧ w'.heap[V]? = some (.cells #[zi 0, .slice none 0 0, .slice none 0 0] 49 (0, 0)) ∧ w'.heap[E]? = some (.cells #[zi at2, .slice t.1.1 t.2.length t.1.2, .slice none 0 0] 49 (0, 0))) ?_ ?_
  rotate_left
  · intro K hK
    refine Exists.intro (some ⟨h, 0, none⟩) (And.intro (cell0 hX3) ?_)
    refine call_ (rlocals_ok h g A c bs p s2 w3 q3 hO hm) ?_
    rintro e wa ⟨v, ys, sa, rfl, la, ra, na, oa, qa, ma⟩
    obtain ⟨Ay, cy, rfl, _⟩ := la.get tyOk (by decide)
    refine ⟨_, rfl, ?_⟩
    have hEa := ma.blk hE3 hEr
    refine And.intro ⟨_, cellB hEa rfl⟩ (And.intro (fzB hEa _) (force_ ?_))
    refine stK hEa (show (1 : Nat) < 3 by decide) ?_
    intro wb hEb mb sb
    exact hK ((Ay, cy), ys) _ _ ⟨rfl, rfl, rfl, rfl, trivial⟩ ⟨sa, ra, na, oa, LRep.mod tyOk (by decide) la (mb.mono fun b _ e => by omega), qa.modN mb (fun b hb e => hE0 b hb e), Mod.trans (ma.mono fun _ _ e => .inl e) mb fun _ _ e => .inr e, mb.blk (ma.blk hX3 hXn) (show ¬ X = E by omega), mb.blk (ma.blk hL3 hLr) (show ¬ L = E by omega), mb.blk (ma.blk hV3 hVr) (show ¬ V = E by omega), hEb⟩
  rintro ⟨⟨Ay, cy⟩, ys⟩ w4 fr4 ⟨s4, r4, hn4, o4, l4, q4, m4, hX4, hL4, hV4, hE4⟩
  dsimp only at r4 hn4 l4 hE4
  have hz4 := m4.size
  -- its stack
  refine seq_cut (σ := (Option Addr × Nat) × List Ty) (fun _ => [(0, .pointer (some ⟨X, 0, none⟩)), (1, .pointer (some ⟨L, 0, none⟩)), (2, .pointer (some ⟨V, 0, none⟩)), (3, .pointer (some ⟨E, 0, none⟩))]) (fun t w' => ∃ s5, Rd (stkT p.l) bs s4 t.2 s5 ∧ t.2.length ≤ (s5.1 - s4.1) + 1 ∧ On s4 s5 ∧ LRep tyR w' (fun b => b < w3.heap.size) (.slice t.1.1 t.2.length t.1.2) t.2 ∧ Ir w' h g A c bs p s5 ∧ Mod (fun b => RS h g b ∨ b = E) w4 w' ∧ w'.heap[L]? = some (.cells #[zi at2] 3 (0, 0)) ∧ w'.heap[V]? = some (.cells #[zi 0, .slice none 0 0, .slice none 0 0] 49 (0, 0)) ∧ w'.heap[E]? = some (.cells #[zi at2, .slice Ay ys.length cy, .slice t.1.1 t.2.length t.1.2] 49 (0, 0))) ?_ ?_
  rotate_left
  · intro K hK
    refine Exists.intro (some ⟨h, 0, none⟩) (And.intro (cell0 hX4) ?_)
    refine Exists.intro (some ⟨h, 0, none⟩) (And.intro (cell0 hX4) ?_)
    refine call_ (members_ty h g A c bs p s4 w4 q4 hO hm) ?_
    rintro e wa ⟨v, zs, sa, rfl, la, ra, _, na, oa, qa, ma⟩
    obtain ⟨Az, cz, rfl, _⟩ := la.get tyOk (by decide)
    refine ⟨_, rfl, ?_⟩
    have hEa := ma.blk hE4 hEr
    refine And.intro ⟨_, cellB hEa rfl⟩ (And.intro (fzB hEa _) (force_ ?_))
    refine stK hEa (show (2 : Nat) < 3 by decide) ?_
    intro wb hEb mb sb
    exact hK ((Az, cz), zs) _ _ ⟨rfl, rfl, rfl, rfl, trivial⟩ ⟨sa, ra, na, oa, LRep.weak tyOk (LRep.mod tyOk (by decide) la (mb.mono fun b _ e => by omega)) (fun b _ e => by omega), qa.modN mb (fun b hb e => hE0 b hb e), Mod.trans (ma.mono fun _ _ e => .inl e) mb fun _ _ e => .inr e, mb.blk (ma.blk hL4 hLr) (show ¬ L = E by omega), mb.blk (ma.blk hV4 hVr) (show ¬ V = E by omega), hEb⟩
  rintro ⟨⟨Az, cz⟩, zs⟩ w5 fr5 ⟨s5, r5, hn5, o5, l5, q5, m5, hL5, hV5, hE5⟩
  dsimp only at r5 hn5 l5 hE5
  have hz5 := m5.size
  have l45 := LRep.mod tyOk (by decide) l4 (m5.mono fun b _ e => e.elim (fun e => by have := hrsl b e; omega) (fun e => by omega))
  have hone : ∀ u ∈ [zi at2, Value.slice Ay ys.length cy, .slice Az zs.length cz], u.oneCell' = true := fun u hu => by
    simp only [List.mem_cons, List.not_mem_nil, or_false] at hu
    rcases hu with rfl | rfl | rfl <;> rfl
  refine loadN_row (vs := [zi at2, .slice Ay ys.length cy, .slice Az zs.length cz]) (rowB hE5) rfl ?_
  refine And.intro rfl ?_
  refine storeN_all (vs := [zi at2, .slice Ay ys.length cy, .slice Az zs.length cz]) hV5 rfl hone ?_
  intro w6 hb6 m6 s6
  refine loadN_row (vs := [zi at2, .slice Ay ys.length cy, .slice Az zs.length cz]) (rowB hb6) rfl ?_
  have lf : ∀ {v : Value} {xs : List Ty}, LRep tyR w5 (fun b => b < w3.heap.size) v xs → LRep tyR w6 (fun b => b < w.heap.size) v xs := fun l => LRep.weak tyOk (LRep.mod tyOk (by decide) l (m6.mono fun b _ e => by omega)) fun b _ e => by omega
  refine ⟨_, ⟨at2, ys, zs⟩, s5, rfl, ⟨_, _, rfl, lf l45, lf l5⟩, ?_, ?_, (o1.trans (o2.trans (o4.trans o5))), q5.modN m6 (fun b hb e => hVn b hb e), ?_, m6.blk hL5 (show ¬ L = V by omega), hi2⟩
  · exact RdS.byP (f := fun m : Mp => (255, m.at_ - last - 1, m.locals, m.stack)) (y := ⟨at2, ys, zs⟩) (RdS.seq (RdS.num1 (m := 255) r1) (rf.seq (RdS.seq (r4.S fun _ => True) (r5.S fun _ => True)))) (fun z hz => ⟨rfl, by show last + 1 + (z.at_ - last - 1) ≤ 65535; omega, trivial, trivial⟩) (fun z e => by
      cases z
      simp only [Prod.mk.injEq] at e
      simp only [Mp.mk.injEq]
      exact ⟨by omega, e.2.2.1, e.2.2.2⟩)
  · have a1 := o1.1
    have a2 := o2.1
    have a4 := o4.1
    have a5 := o5.1
    show 7 + 3 * ys.length + 3 * zs.length ≤ _
    omega
  · have b1 : Mod (fun b => RS h g b ∨ b = L) w w1 := Mod.trans n0.mod (m1.mono fun _ _ e => .inl e) fun _ _ e => e
    have b2 : Mod (fun b => RS h g b ∨ b = L) w w3 := both (both b1 m2) n3.mod
    have b4 : Mod (fun b => RS h g b ∨ b = L) w w4 := Mod.trans b2 m4 fun b hb e => e.elim .inl fun e => by omega
    have b5 : Mod (fun b => RS h g b ∨ b = L) w w5 := Mod.trans b4 m5 fun b hb e => e.elim .inl fun e => by omega
    exact Mod.trans b5 m6 fun b hb e => by omega

theorem members_map (h g : Nat) (A : Option Addr) (c : Nat) (bs : List UInt8) (p : Po) (s : RSt) (w : World) (q : Ir w h g A c bs p s) (hO : OkPool p.l) (X L : Nat) (hX : w.heap[X]? = some (.cells #[.pointer (some ⟨h, 0, none⟩)] 104 (0, 0))) (hXn : ¬ RS h g X) (hL : w.heap[L]? = some (.cells #[zi (-1)] 3 (0, 0))) (hLn : ∀ b, Iin h g A bs p b → b ≠ L) (hXL : X ≠ L)  (hm : bs.length ≤ 1000000) :
    Calls Tryd.prog 93 #[.pointer (some ⟨h, 0, none⟩), .func (.func 94) #[] #[.pointer (some ⟨X, 0, none⟩), .pointer (some ⟨L, 0, none⟩)]] w fun e w' => ∃ v xs s', e = .returned v ∧ LRep mpR w' (fun b => b < w.heap.size) v xs ∧ Rd (mapsT p.l) bs s xs s' ∧ csum cMp xs ≤ (6 + 16) * (s'.1 - s.1) + 16 ∧ xs.length ≤ (s'.1 - s.1) + 1 ∧ On s s' ∧ Ir w' h g A c bs p s' ∧ Mod (fun b => RS h g b ∨ b = L) w w' := by
  refine enter ok Tryd.func93 rfl rfl rfl ?_
  have low : ∀ b, (fun b => RS h g b ∨ b = L) b → b < w.heap.size := fun b e => by
    rcases e with e | e
    · exact q.lt (by rcases e with e | e; exact .inr (.inl e); exact .inl e)
    · rw [e]; exact (Array.getElem?_eq_some_iff.1 hL).1
  have hXw : X < w.heap.size := (Array.getElem?_eq_some_iff.1 hX).1
  have hLw : L < w.heap.size := (Array.getElem?_eq_some_iff.1 hL).1
  have hLr : ¬ RS h g L := fun e => by
    rcases e with e | e
    · exact hLn _ (.inr (.inl rfl)) e.symm
    · exact hLn _ (.inl rfl) e.symm
  refine seq_assign ?_
  refine seq_assign ?_
  refine seq_cut (σ := (Option Addr × Nat) × List (List Value × Mp)) (fun t => [(5, .slice t.1.1 t.2.length t.1.2)]) (fun t w' => ∃ s', LRep mpR w' (fun b => b < w.heap.size) (.slice t.1.1 t.2.length t.1.2) (t.2.map (·.2)) ∧ Rd (mapsT p.l) bs s (t.2.map (·.2)) s' ∧ csum cMp (t.2.map (·.2)) ≤ (6 + 16) * (s'.1 - s.1) + 16 ∧ (t.2.map (·.2)).length ≤ (s'.1 - s.1) + 1 ∧ On s s' ∧ Ir w' h g A c bs p s' ∧ Mod (fun b => RS h g b ∨ b = L) w w') ?_ ?_
  · rintro t w1 fr1 ⟨s', h1, h2, h3, h4, h5, h6, h8⟩
    exact ⟨_, _, s', rfl, h1, h2, h3, h4, h5, h6, h8⟩
  intro K hK
  refine seq_cut (σ := Int) (fun n => [(0, .pointer (some ⟨h, 0, none⟩)), (1, .func (.func 94) #[] #[.pointer (some ⟨X, 0, none⟩), .pointer (some ⟨L, 0, none⟩)]), (5, .slice none 0 0), (6, zi n)]) (fun n w' => ∃ s1, Rd n2 bs s n s1 ∧ (0 ≤ n ∧ n < 65536) ∧ On s s1 ∧ Ir w' h g A c bs p s1 ∧ Mod (fun b => RS h g b ∨ b = L) w w' ∧ Mod (RS h g) w w') ?_ ?_
  rotate_left
  · intro K2 hK2
    refine call_ (u_ok h g A c bs p s 2 Pool.w2 w q) ?_
    rintro e w1 ⟨n, s1, rfl, rd1, hb, o1, p1, m1⟩
    refine ⟨_, rfl, ?_⟩
    exact hK2 n _ _ ⟨rfl, rfl, rfl, rfl, trivial⟩ ⟨s1, rd1, hb, o1, p1, m1.mono fun b hb e => .inl e, m1⟩
  rintro n w1 fr1 ⟨s1, rd1, hn, o1, p1, m1, m1'⟩
  refine den_loop (σ := ((Option Addr × Nat) × List (List Value × Mp)) × Int × RSt × Int) (fun t => [(0, .pointer (some ⟨h, 0, none⟩)), (1, .func (.func 94) #[] #[.pointer (some ⟨X, 0, none⟩), .pointer (some ⟨L, 0, none⟩)]), (5, .slice t.1.1.1 t.1.2.length t.1.1.2), (6, zi t.2.1)])
    (fun m t wl => m = t.2.1.toNat ∧ MRd p.l bs s (t.1.2.map (·.2)) t.2.1.toNat t.2.2.2 t.2.2.1 ∧ wl.heap[X]? = some (.cells #[.pointer (some ⟨h, 0, none⟩)] 104 (0, 0)) ∧ wl.heap[L]? = some (.cells #[zi t.2.2.2] 3 (0, 0)) ∧ i64 t.2.2.2 ∧ t.2.1.toNat + t.1.2.length ≤ 65536 ∧ t.2.1 ≤ 65536 ∧ On s t.2.2.1 ∧ Ir wl h g A c bs p t.2.2.1 ∧ Mod (fun b => RS h g b ∨ b = L) w wl ∧ LCo cMp 6 16 s (t.1.2.map (·.2)) t.2.2.1 ∧ wl.ownsRow w.heap.size 49 3 (.slice t.1.1.1 t.1.2.length t.1.1.2) t.1.2.length (cellsOf t.1.2) ∧
      (∀ y ∈ t.1.2, mpR wl (fun b => b < w.heap.size ∨ some b = (Value.slice t.1.1.1 t.1.2.length t.1.1.2).ownBlock) y.1 y.2)) n.toNat (((none, 0), []), n, s1, -1)
    ⟨rfl, rfl, rfl, rfl, trivial⟩ ⟨rfl, MRd.start rd1, m1'.blk hX hXn, m1'.blk hL hLr, by unfold i64; dsimp only; omega, by simp; omega, by dsimp only; omega, o1, p1, m1, LCo.start, ⟨rfl, .inl ⟨rfl, rfl⟩⟩, (fun _ h => (by cases h))⟩ ?_
  rintro m ⟨⟨⟨Al, cl⟩, ts⟩, z, s2, last⟩ wl frl ⟨rfl, hinv, hXl, hLl, hil, hcnt, hz65, on2, pl, kl, hco, own, hts⟩
  dsimp only at hinv hLl hil hcnt hz65 on2 pl kl hco own hts
  have hown := fun b (e : (Value.slice Al ts.length cl).ownBlock = some b) => own.lt b e
  have klz := kl.size
  have fin : (s2.2 = false → z.toNat = 0) → id (∃ s', LRep mpR wl (fun b => b < w.heap.size) (.slice Al ts.length cl) (ts.map (·.2)) ∧ Rd (mapsT p.l) bs s (ts.map (·.2)) s' ∧ csum cMp (ts.map (·.2)) ≤ (6 + 16) * (s'.1 - s.1) + 16 ∧ (ts.map (·.2)).length ≤ (s'.1 - s.1) + 1 ∧ On s s' ∧ Ir wl h g A c bs p s' ∧ Mod (fun b => RS h g b ∨ b = L) w wl) := fun hz => by
    obtain ⟨A', c', e', h5, h6, row, ho⟩ := own_slice own
    cases e'
    exact ⟨s2, ⟨Al, cl, ts, by rw [List.length_map], rfl, by rw [List.length_map]; exact h5, h6, by rw [List.length_map]; omega, row, fun a ha _ => ⟨(ho a ha).2.1, by have := (ho a ha).1; omega⟩, fun t ht => mpOk.weak (hts t ht) fun b _ hb => .inl hb⟩, hinv.done hz, hco.le.1, hco.le.2, on2, pl, kl⟩
  refine if_p (fun hlt => ?_) (fun hge => ?_)
  · replace hlt : 0 < z := hlt
    refine Exists.intro s2.2 (And.intro (cellB pl.blk rfl) ?_)
    refine if_ (fun hz => ?_) (fun hz => ?_)
    · replace hz : s2.2 = false := by simpa using hz
      obtain ⟨k, hk⟩ : ∃ k, z.toNat = k + 1 := ⟨z.toNat - 1, by omega⟩
      rw [hk] at hinv
      have hk' : (z - 1).toNat = k := by omega
      refine call_ (rmap_ok h g A c bs p s2 wl pl hO X L last hXl hXn hLl hLn hXL hil hm) ?_
      rintro e w5 ⟨cs, x, s5, he, hx, rd5, hcost5, hprog5, p5, m5, hL5, hi5⟩
      subst he
      have hx0 := hx
      obtain ⟨_, _, rfl, lx1, lx2⟩ := hx
      obtain ⟨Ax1, cx1, rfl, _⟩ := lx1.get tyOk (by decide)
      obtain ⟨Ax2, cx2, rfl, _⟩ := lx2.get tyOk (by decide)
      refine ⟨_, rfl, ?_⟩
      have m5z := m5.size
      have hnR : ∀ b, w.heap.size ≤ b → ¬ (fun b => RS h g b ∨ b = L) b := fun b hb e => by have := low b e; omega
      have own5 := own_mod m5 own (fun b hb => hnR b (hown b hb).1)
      have n6 := New.alloc w5 (.cells [zi x.at_, .slice Ax1 x.locals.length cx1, .slice Ax2 x.stack.length cx2].toArray 49)
      refine append2_ ok rfl rfl rfl rfl (own_new n6 own5) rfl rfl (row_alloc w5 [zi x.at_, .slice Ax1 x.locals.length cx1, .slice Ax2 x.stack.length cx2] _ _) rfl (mpOk.one hx0) (by decide) rfl (by show (ts.length + 1) * 56 ≤ _; omega) (by omega) (Nat.le_trans (by omega) n6.size) ?_
      intro A7 c7 w7 own7 mod7 st7
      have k57 : Mod (fun b => some b = (Value.slice Al ts.length cl).ownBlock) w5 w7 := Mod.trans n6.mod mod7 fun _ _ e => e
      have hl : (ts ++ [([zi x.at_, .slice Ax1 x.locals.length cx1, .slice Ax2 x.stack.length cx2], x)]).length = ts.length + 1 := by simp
      have st : ∀ b, some b = (Value.slice A7 (ts.length + 1) c7).ownBlock → some b = (Value.slice Al ts.length cl).ownBlock ∨ w5.heap.size ≤ b := fun b e => by
        rcases st7 b e.symm with e | e
        · exact .inl e.symm
        · exact .inr (Nat.le_trans n6.size e)
      have hnew := mem_stepS mpOk hts hx0 m5 low k57 klz (fun b e => hown b e.symm) st
      have pow := q.loc p5 k57 fun b e => (hown _ e.symm).1
      refine ⟨(z - 1).toNat, (((A7, c7), ts ++ [([zi x.at_, .slice Ax1 x.locals.length cx1, .slice Ax2 x.stack.length cx2], x)]), z - 1, s5, x.at_), (by dsimp only; omega), ⟨rfl, rfl, (show Value.slice A7 (ts.length + 1) c7 = .slice A7 (ts ++ [([zi x.at_, .slice Ax1 x.locals.length cx1, .slice Ax2 x.stack.length cx2], x)]).length c7 by rw [hl]), (show zi (IntKind.i64.wrap (z - 1)) = zi (z - 1) by rw [wrap_i64 (by omega) (by omega)]), trivial⟩, rfl, ?_, k57.blk (m5.blk hXl (fun e => e.elim hXn hXL)) (fun e => by have := (hown _ e.symm).1; omega), k57.blk hL5 (fun e => by have := (hown _ e.symm).1; omega), hi5, ?_, by dsimp only; omega, on2.trans hprog5, pow, ?_, ?_, ?_, ?_⟩
      · dsimp only
        rw [hk', List.map_append]
        exact hinv.step rd5
      · dsimp only
        rw [hl]
        omega
      · exact Mod.trans (both kl m5) k57 fun b hb e => by have := hown b e.symm; omega
      · dsimp only
        rw [List.map_append]
        exact hco.step hinv.1 hz hcost5 hprog5
      · dsimp only
        rw [hl, cellsOf_snoc]
        exact own7
      · dsimp only
        rw [hl]
        exact hnew
    · replace hz : s2.2 = true := by simpa using hz
      exact hK ((Al, cl), ts) _ _ ⟨rfl, trivial⟩ (fin fun h => by rw [hz] at h; cases h)
  · replace hge : ¬ 0 < z := hge
    exact hK ((Al, cl), ts) _ _ ⟨rfl, trivial⟩ (fin fun _ => by omega)

end Go.Proofs.YtdcaafldnbcdkaaDoor.Class

/-! ### KRead6 -/
namespace Go.Proofs.YtdcaafldnbcdkaaDoor.Class
open Go Go.Proofs.YtdcaafldnbcdkaaDoor Go.Proofs.YtdcaafldnbcdkaaDoor.Eng Go.Proofs Go.Proofs.YtdcaafldnbcdkaaDoor.Word Go.Proofs.YtdcaafldnbcdkaaDoor.Fmt
open Go.Proofs.YtdcaafldnbcdkaaDoor.Pool (rd_modN rd_low RS Ent at_ poolF strV entC entV EntOk Pl OkPool both own_low tagAt)
set_option maxRecDepth 10000

theorem ones5 (a b : Int) (A1 A2 A3 : Option Addr) (n1 c1 n2 c2 n3 c3 : Nat) : ∀ u ∈ [zi a, zi b, Value.slice A1 n1 c1, Value.slice A2 n2 c2, Value.slice A3 n3 c3], u.oneCell' = true := fun u hu => by
  simp only [List.mem_cons, List.not_mem_nil, or_false] at hu
  rcases hu with rfl | rfl | rfl | rfl | rfl <;> rfl
theorem one5 (a b : Int) : ∀ u ∈ [zi a, zi b, Value.slice none 0 0, Value.slice none 0 0, Value.slice none 0 0], u.oneCell' = true := fun u hu => by
  simp only [List.mem_cons, List.not_mem_nil, or_false] at hu
  rcases hu with rfl | rfl | rfl | rfl | rfl <;> rfl
theorem Rd.blobN {bs : List UInt8} {s s1 : RSt} {n : Int} (h : Rd Class.n4 bs s n s1) (hb : s1.2 = true) (x : List UInt8) : Rd blobT bs s x s1 := by
  refine ⟨h.1, h.2.1, fun hs y q ho e => ?_⟩
  have e : bs.drop s.1 = enc 4 (y.length : Int) ++ (y ++ q) := by rw [e]; exact List.append_assoc ..
  obtain ⟨_, a2, _⟩ := h.2.2 hs _ _ ho e
  rw [hb] at a2
  cases a2
theorem u8_cells : ∀ l : List UInt8, cellsOf (l.map fun b => ([Value.int .u8 (b.toNat : Int)], b)) = bvs l
  | [] => rfl
  | b :: r => by
    have ih := u8_cells r
    show [Value.int .u8 (b.toNat : Int)] ++ cellsOf (r.map fun b => ([Value.int .u8 (b.toNat : Int)], b)) = bvs (b :: r)
    rw [ih]
    rfl
theorem bytes_rep {w : World} {b0 : Nat} {S : Nat → Prop} {v : Value} {l : List UInt8} (own : w.ownsRow b0 5 1 v l.length (bvs l)) (hl : l.length ≤ 140737488355328) (hS : ∀ b, b0 ≤ b → ¬ S b) : LRep u8R w S v l := by
  obtain ⟨A, c, rfl, h5, h6, row, ho⟩ := own_slice own
  refine ⟨A, c, l.map fun b => ([.int .u8 (b.toNat : Int)], b), rfl, by rw [List.map_map]; exact List.map_id _, h5, h6, hl, ?_, fun a ha _ => ⟨(ho a ha).2.1, hS _ (ho a ha).1⟩, fun t ht => ?_⟩
  · show Row w A (cellsOf _)
    rw [u8_cells]
    exact row
  · obtain ⟨y, _, rfl⟩ := List.mem_map.1 ht
    rfl
theorem rcode_ok (h g : Nat) (A : Option Addr) (c : Nat) (bs : List UInt8) (p : Po) (s : RSt) (w : World) (q : Ir w h g A c bs p s) (hO : OkPool p.l) (hm : bs.length ≤ 1000000) :
    Calls Tryd.prog 67 #[.pointer (some ⟨h, 0, none⟩)] w fun e w' => ∃ cs x s', e = .returned (.agg (List.toArray cs)) ∧ codR w' (fun b => b < w.heap.size) cs x ∧ Rd (partT (codT p.l)) bs s x s' ∧ cCod x ≤ 22 * (s'.1 - s.1) + 44 ∧ On s s' ∧ Ir w' h g A c bs p s' ∧ Mod (RS h g) w w' := by
  refine enter ok Tryd.func67 rfl rfl rfl ?_
  refine seq_cut (σ := Nat × Nat) (fun t => [(1, .pointer (some ⟨t.1, 0, none⟩)), (2, .pointer (some ⟨t.2, 0, none⟩))]) (fun t w' => New w w' ∧ w.heap.size ≤ t.1 ∧ w.heap.size ≤ t.2 ∧ t.1 ≠ t.2 ∧ w'.heap[t.1]? = some (.cells #[.pointer (some ⟨h, 0, none⟩)] 104 (0, 0)) ∧ w'.heap[t.2]? = some (.cells #[zi 0, zi 0, .slice none 0 0, .slice none 0 0, .slice none 0 0] 34 (0, 0))) ?_ ?_
  rotate_left
  · intro K hK
    have n1 := New.alloc w (.cells #[.pointer (some ⟨h, 0, none⟩)] 104)
    have h1 := heap_alloc_new w (.cells #[.pointer (some ⟨h, 0, none⟩)] 104)
    have n2 := New.alloc (w.alloc (.cells #[.pointer (some ⟨h, 0, none⟩)] 104)) (.cells #[zi 0, zi 0, .slice none 0 0, .slice none 0 0, .slice none 0 0] 34)
    have h2 := heap_alloc_new (w.alloc (.cells #[.pointer (some ⟨h, 0, none⟩)] 104)) (.cells #[zi 0, zi 0, .slice none 0 0, .slice none 0 0, .slice none 0 0] 34)
    have z1 : (w.alloc (.cells #[.pointer (some ⟨h, 0, none⟩)] 104)).heap.size = w.heap.size + 1 := by simp
    exact hK (w.heap.size, (w.alloc (.cells #[.pointer (some ⟨h, 0, none⟩)] 104)).heap.size) _ _ ⟨rfl, rfl, trivial⟩ ⟨n1.trans n2, Nat.le_refl _, by dsimp only; omega, by dsimp only; omega, n2.blk h1, h2⟩
  rintro ⟨X, V⟩ w0 fr0 ⟨n0, hXw, hVw, hXV, hX0, hV0⟩
  dsimp only at hXw hVw hXV hX0 hV0
  have q0 := q.new n0
  have hrsl : ∀ b, RS h g b → b < w.heap.size := fun b e => q.lt (by rcases e with e | e; exact .inr (.inl e); exact .inl e)
  have hXn : ¬ RS h g X := fun e => by have := hrsl _ e; omega
  have hVr : ¬ RS h g V := fun e => by have := hrsl _ e; omega
  have hVn : ∀ b, Iin h g A bs p b → b ≠ V := fun b hb e => by have := q.lt hb; omega
  have hXl : X < w0.heap.size := (Array.getElem?_eq_some_iff.1 hX0).1
  have hVl : V < w0.heap.size := (Array.getElem?_eq_some_iff.1 hV0).1
  have hz0 := n0.size
  refine seq_cut (σ := Unit) (fun _ => [(1, .pointer (some ⟨X, 0, none⟩)), (2, .pointer (some ⟨V, 0, none⟩))]) (fun _ w' => ∃ n s1, Rd Class.n4 bs s n s1 ∧ On s s1 ∧ Ir w' h g A c bs p s1 ∧ Mod (RS h g) w0 w') ?_ ?_
  rotate_left
  · intro K hK
    refine Exists.intro (some ⟨h, 0, none⟩) (And.intro (cell0 hX0) ?_)
    refine call_ (u_ok h g A c bs p s 4 Pool.w4 w0 q0) ?_
    rintro e w1 ⟨n, s1, rfl, r1, hb1, o1, q1, m1⟩
    refine ⟨_, rfl, ?_⟩
    exact hK () _ _ ⟨rfl, rfl, trivial⟩ ⟨n, s1, r1, o1, q1, m1⟩
  rintro _ w1 fr1 ⟨n0', s1, r1, o1, q1, m1⟩
  have hX1 := m1.blk hX0 hXn
  have hV1 := m1.blk hV0 hVr
  have hz1 := m1.size
  have hrs1 : ∀ b, RS h g b → b < w1.heap.size := fun b e => by have := hrsl b e; omega
  refine seq_cut (σ := Nat × Int × Int) (fun t => [(1, .pointer (some ⟨X, 0, none⟩)), (2, .pointer (some ⟨V, 0, none⟩)), (3, .pointer (some ⟨t.1, 0, none⟩))]) (fun t w' => ∃ s2 s3, Rd Class.n2 bs s1 t.2.1 s2 ∧ Rd Class.n2 bs s2 t.2.2 s3 ∧ On s1 s2 ∧ On s2 s3 ∧ Ir w' h g A c bs p s3 ∧ Mod (RS h g) w1 w' ∧ w1.heap.size ≤ t.1 ∧ w'.heap[X]? = some (.cells #[.pointer (some ⟨h, 0, none⟩)] 104 (0, 0)) ∧ w'.heap[V]? = some (.cells #[zi 0, zi 0, .slice none 0 0, .slice none 0 0, .slice none 0 0] 34 (0, 0)) ∧ w'.heap[t.1]? = some (.cells #[zi t.2.1, zi t.2.2, .slice none 0 0, .slice none 0 0, .slice none 0 0] 34 (0, 0))) ?_ ?_
  rotate_left
  · intro K hK
    have nd := New.drew w1
    refine draw_ (w := w1) ok (.q 0 (.q 2 (.br (.e 1 (.br (.e 3 (.q 4 (.e 5 (.e 6 .done)))) (.e 5 (.e 3 (.q 4 (.e 6 .done)))))) (.e 5 (.e 1 (.e 3 (.q 4 (.e 6 .done)))))))) [6] (fun w'' : World => w''.heap[X]? = some (.cells #[.pointer (some ⟨h, 0, none⟩)] 104 (0, 0))) (by kernel_rfl) (by kernel_rfl) (by kernel_rfl) (by kernel_rfl) (by kernel_rfl) (nd.blk hX1) ?_
    refine Exists.intro (some ⟨h, 0, none⟩) (And.intro (fun w'' hw => cell0 hw) ?_)
    refine Exists.intro (some ⟨h, 0, none⟩) (And.intro (fun w'' hw => cell0 hw) ?_)
    refine And.intro ?_ ?_
    · refine call_ (u_ok h g A c bs p s1 2 Pool.w2 w1.drew (q1.new nd)) ?_
      rintro e wa ⟨na, sa, rfl, ra, hba, oa, qa, ma⟩
      refine ⟨_, rfl, ?_⟩
      have hXa := ma.blk (nd.blk hX1) hXn
      refine Exists.intro (fun w'' : World => w''.heap[X]? = some (.cells #[.pointer (some ⟨h, 0, none⟩)] 104 (0, 0))) ?_
      refine And.intro (fun _ h => h) ?_
      refine And.intro (hXa) ?_
      refine And.intro ?_ ?_
      ·
        refine call_ (u_ok h g A c bs p sa 2 Pool.w2 wa qa) ?_
        rintro e wb ⟨nb, sb, rfl, rb, hbb, ob, qb, mb⟩
        refine ⟨_, rfl, ?_⟩
        have hXb := mb.blk hXa hXn
        refine Exists.intro (fun w'' : World => w''.heap[X]? = some (.cells #[.pointer (some ⟨h, 0, none⟩)] 104 (0, 0))) ?_
        refine And.intro (fun _ h => h) ?_
        refine And.intro (hXb) ?_
        have nA := New.alloc wb (.cells #[zi 0, zi 0, .slice none 0 0, .slice none 0 0, .slice none 0 0] 34)
        have hA := heap_alloc_new wb (.cells #[zi 0, zi 0, .slice none 0 0, .slice none 0 0, .slice none 0 0] 34)
        refine Exists.intro (fun w'' : World => w''.heap[X]? = some (.cells #[.pointer (some ⟨h, 0, none⟩)] 104 (0, 0))) ?_
        refine And.intro (fun _ h => h) ?_
        refine And.intro (nA.blk hXb) ?_
        have zb : w1.heap.size ≤ wb.heap.size := Nat.le_trans nd.size (Nat.le_trans ma.size mb.size)
        refine And.intro rfl ?_
        refine storeN_all (vs := [zi na, zi nb, .slice none 0 0, .slice none 0 0, .slice none 0 0]) hA rfl (one5 na nb) ?_
        intro wc hEc mc sc
        exact hK (wb.heap.size, na, nb) _ _ ⟨rfl, rfl, rfl, trivial⟩ ⟨sa, sb, ra, rb, oa, ob, (qb.new nA).modN mc (fun b hb e => by have h1 := q1.lt hb; have h2 : w1.heap.size ≤ wb.heap.size := zb; omega), Mod.trans (Mod.trans nd.mod (both (both ma mb) nA.mod) fun _ _ e => e) mc fun b hb e => by have h2 : w1.heap.size ≤ wb.heap.size := zb; omega, zb, mc.blk (nA.blk hXb) (by have h2 : w1.heap.size ≤ wb.heap.size := zb; omega), mc.blk (nA.blk (mb.blk (ma.blk (nd.blk hV1) hVr) hVr)) (by have h2 : w1.heap.size ≤ wb.heap.size := zb; omega), hEc⟩
      ·
        have nA := New.alloc wa (.cells #[zi 0, zi 0, .slice none 0 0, .slice none 0 0, .slice none 0 0] 34)
        have hA := heap_alloc_new wa (.cells #[zi 0, zi 0, .slice none 0 0, .slice none 0 0, .slice none 0 0] 34)
        refine Exists.intro (fun w'' : World => w''.heap[X]? = some (.cells #[.pointer (some ⟨h, 0, none⟩)] 104 (0, 0))) ?_
        refine And.intro (fun _ h => h) ?_
        refine And.intro (nA.blk hXa) ?_
        refine call_ (u_ok h g A c bs p sa 2 Pool.w2 (wa.alloc (.cells #[zi 0, zi 0, .slice none 0 0, .slice none 0 0, .slice none 0 0] 34)) (qa.new nA)) ?_
        rintro e wb ⟨nb, sb, rfl, rb, hbb, ob, qb, mb⟩
        refine ⟨_, rfl, ?_⟩
        have hXb := mb.blk (nA.blk hXa) hXn
        refine Exists.intro (fun w'' : World => w''.heap[X]? = some (.cells #[.pointer (some ⟨h, 0, none⟩)] 104 (0, 0))) ?_
        refine And.intro (fun _ h => h) ?_
        refine And.intro (hXb) ?_
        have za : w1.heap.size ≤ wa.heap.size := Nat.le_trans nd.size ma.size
        have hEn : ¬ RS h g wa.heap.size := fun e => by have := hrs1 _ e; omega
        refine And.intro rfl ?_
        refine storeN_all (vs := [zi na, zi nb, .slice none 0 0, .slice none 0 0, .slice none 0 0]) (mb.blk hA hEn) rfl (one5 na nb) ?_
        intro wc hEc mc sc
        exact hK (wa.heap.size, na, nb) _ _ ⟨rfl, rfl, rfl, trivial⟩ ⟨sa, sb, ra, rb, oa, ob, (qb).modN mc (fun b hb e => by have h1 := q1.lt hb; have h2 : w1.heap.size ≤ wa.heap.size := za; omega), Mod.trans (Mod.trans nd.mod (both (both ma nA.mod) mb) fun _ _ e => e) mc fun b hb e => by have h2 : w1.heap.size ≤ wa.heap.size := za; omega, za, mc.blk (hXb) (by have h2 : w1.heap.size ≤ wa.heap.size := za; omega), mc.blk (mb.blk (nA.blk (ma.blk (nd.blk hV1) hVr)) hVr) (by have h2 : w1.heap.size ≤ wa.heap.size := za; omega), hEc⟩
    ·
        have nA := New.alloc w1.drew (.cells #[zi 0, zi 0, .slice none 0 0, .slice none 0 0, .slice none 0 0] 34)
        have hA := heap_alloc_new w1.drew (.cells #[zi 0, zi 0, .slice none 0 0, .slice none 0 0, .slice none 0 0] 34)
        refine Exists.intro (fun w'' : World => w''.heap[X]? = some (.cells #[.pointer (some ⟨h, 0, none⟩)] 104 (0, 0))) ?_
        refine And.intro (fun _ h => h) ?_
        refine And.intro (nA.blk (nd.blk hX1)) ?_
        refine call_ (u_ok h g A c bs p s1 2 Pool.w2 (w1.drew.alloc (.cells #[zi 0, zi 0, .slice none 0 0, .slice none 0 0, .slice none 0 0] 34)) (q1.new (nd.trans nA))) ?_
        rintro e wa ⟨na, sa, rfl, ra, hba, oa, qa, ma⟩
        refine ⟨_, rfl, ?_⟩
        have hXa := ma.blk (nA.blk (nd.blk hX1)) hXn
        refine Exists.intro (fun w'' : World => w''.heap[X]? = some (.cells #[.pointer (some ⟨h, 0, none⟩)] 104 (0, 0))) ?_
        refine And.intro (fun _ h => h) ?_
        refine And.intro (hXa) ?_
        refine call_ (u_ok h g A c bs p sa 2 Pool.w2 wa qa) ?_
        rintro e wb ⟨nb, sb, rfl, rb, hbb, ob, qb, mb⟩
        refine ⟨_, rfl, ?_⟩
        have hXb := mb.blk hXa hXn
        refine Exists.intro (fun w'' : World => w''.heap[X]? = some (.cells #[.pointer (some ⟨h, 0, none⟩)] 104 (0, 0))) ?_
        refine And.intro (fun _ h => h) ?_
        refine And.intro (hXb) ?_
        have za : w1.heap.size ≤ w1.drew.heap.size := nd.size
        have hEn : ¬ RS h g w1.drew.heap.size := fun e => by have := hrs1 _ e; omega
        refine And.intro rfl ?_
        refine storeN_all (vs := [zi na, zi nb, .slice none 0 0, .slice none 0 0, .slice none 0 0]) (mb.blk (ma.blk hA hEn) hEn) rfl (one5 na nb) ?_
        intro wc hEc mc sc
        exact hK (w1.drew.heap.size, na, nb) _ _ ⟨rfl, rfl, rfl, trivial⟩ ⟨sa, sb, ra, rb, oa, ob, (qb).modN mc (fun b hb e => by have h1 := q1.lt hb; have h2 : w1.heap.size ≤ w1.drew.heap.size := za; omega), Mod.trans (Mod.trans nd.mod (both (both nA.mod ma) mb) fun _ _ e => e) mc fun b hb e => by have h2 : w1.heap.size ≤ w1.drew.heap.size := za; omega, za, mc.blk (hXb) (by have h2 : w1.heap.size ≤ w1.drew.heap.size := za; omega), mc.blk (mb.blk (ma.blk (nA.blk (nd.blk hV1)) hVr) hVr) (by have h2 : w1.heap.size ≤ w1.drew.heap.size := za; omega), hEc⟩
  rintro ⟨E, n2, n3⟩ w3 fr3 ⟨s2, s3, r2, r3, o2, o3, q3, m3, hEw, hX3, hV3, hE3⟩
  dsimp only at r2 r3 hEw hE3
  have hz3 := m3.size
  have hEl : E < w3.heap.size := (Array.getElem?_eq_some_iff.1 hE3).1
  have hEr : ¬ RS h g E := fun e => by have := hrs1 _ e; omega
  have hE0 : ∀ b, Iin h g A bs p b → b ≠ E := fun b hb e => by have := q.lt hb; omega
  -- its bytes
  refine seq_cut (σ := (Option Addr × Nat) × List UInt8) (fun _ => [(1, .pointer (some ⟨X, 0, none⟩)), (2, .pointer (some ⟨V, 0, none⟩)), (3, .pointer (some ⟨E, 0, none⟩))]) (fun t w' => ∃ s4, Rd blobT bs s3 t.2 s4 ∧ t.2.length ≤ s4.1 - s3.1 ∧ On s3 s4 ∧ LRep u8R w' (fun b => b < w3.heap.size) (.slice t.1.1 t.2.length t.1.2) t.2 ∧ Ir w' h g A c bs p s4 ∧ Mod (fun b => RS h g b ∨ b = E) w3 w' ∧ w'.heap[X]? = some (.cells #[.pointer (some ⟨h, 0, none⟩)] 104 (0, 0)) ∧ w'.heap[V]? = some (.cells #[zi 0, zi 0, .slice none 0 0, .slice none 0 0, .slice none 0 0] 34 (0, 0)) ∧ w'.heap[E]? = some (.cells #[zi n2, zi n3, .slice t.1.1 t.2.length t.1.2, .slice none 0 0, .slice none 0 0] 34 (0, 0))) ?_ ?_
  rotate_left
  · intro K hK
    refine seq_cut (σ := Int) (fun n => [(1, .pointer (some ⟨X, 0, none⟩)), (2, .pointer (some ⟨V, 0, none⟩)), (3, .pointer (some ⟨E, 0, none⟩)), (4, zi n)]) (fun n w' => ∃ s4, Rd Class.n4 bs s3 n s4 ∧ On s3 s4 ∧ Ir w' h g A c bs p s4 ∧ Mod (RS h g) w3 w') ?_ ?_
    rotate_left
    · intro K2 hK2
      refine Exists.intro (some ⟨h, 0, none⟩) (And.intro (cell0 hX3) ?_)
      refine call_ (u_ok h g A c bs p s3 4 Pool.w4 w3 q3) ?_
      rintro e wa ⟨na, sa, rfl, ra, hba, oa, qa, ma⟩
      refine ⟨_, rfl, ?_⟩
      exact hK2 na _ _ ⟨rfl, rfl, rfl, rfl, trivial⟩ ⟨sa, ra, oa, qa, ma⟩
    rintro n w4 fr4 ⟨s4, r4, o4, q4, m4⟩
    have hX4 := m4.blk hX3 hXn
    have hV4 := m4.blk hV3 hVr
    have hE4 := m4.blk hE3 hEr
    refine Exists.intro (some ⟨h, 0, none⟩) (And.intro (cell0 hX4) ?_)
    refine Exists.intro s4.2 (And.intro (cellB q4.blk rfl) ?_)
    refine if_ (fun hz => ?_) (fun hz => ?_)
    · replace hz : s4.2 = false := by simpa using hz
      refine seq_cut (σ := (Option Addr × Nat) × List UInt8 × Int) (fun t => [(1, .pointer (some ⟨X, 0, none⟩)), (2, .pointer (some ⟨V, 0, none⟩)), (3, .pointer (some ⟨E, 0, none⟩)), (5, .slice t.1.1 t.2.1.length t.1.2), (6, zi t.2.2)]) (fun t w' => t.2.1 = (Word.getB bs s4.1 n).1 ∧ t.2.2 = (Word.getB bs s4.1 n).2.1 ∧ w'.ownsRow w4.heap.size 5 1 (.slice t.1.1 t.2.1.length t.1.2) t.2.1.length (bvs t.2.1) ∧ Ir w' h g A c bs p ((Word.getB bs s4.1 n).2.2, s4.2) ∧ Mod (RS h g) w4 w') ?_ ?_
      rotate_left
      · intro K2 hK2
        refine Exists.intro (some ⟨h, 0, none⟩) (And.intro (cell0 hX4) ?_)
        refine Exists.intro (some ⟨g, 0, none⟩) (And.intro (cellB q4.blk rfl) ?_)
        refine call_ (RBytes_ok g A c bs s4.1 n w4 q4.rd (by omega)) ?_
        rintro e w5 ⟨v, rfl, own5, rd5, m5⟩
        obtain ⟨A5, c5, rfl, _⟩ := own_slice own5
        refine ⟨_, rfl, ?_⟩
        refine hK2 ((A5, c5), (Word.getB bs s4.1 n).1, (Word.getB bs s4.1 n).2.1) _ _ ⟨rfl, rfl, rfl, rfl, rfl, trivial⟩ ⟨rfl, rfl, own5, ⟨m5.blk q4.blk q4.ne, rd5, q4.ne, q4.off, q4.pl.mod m5 (fun a ha hn e => (q4.pd _ (.inl ⟨a, ha, hn, rfl⟩)).2 e), fun k' h0 h5 => m5.cell (q4.tbl k' h0 h5) (fun e => (q4.pd _ (.inr rfl)).2 e), q4.pd⟩, m5.mono fun _ _ e => .inl e⟩
      rintro ⟨⟨A5, c5⟩, by_, er⟩ w5 fr5 ⟨hby, her, own5, q5, m5⟩
      dsimp only at hby her own5
      have rb := Rd.blob r4 hz
      have ob : On s3 ((Word.getB bs s4.1 n).2.2, !decide ((Word.getB bs s4.1 n).2.1 = 0)) := by
        have h1 := rb.1
        have h2 := o4.1
        have h3 : s4.1 ≤ (Word.getB bs s4.1 n).2.2 := by
          unfold Word.getB
          split
          · exact Nat.le_refl _
          · split
            · exact Nat.le_refl _
            · exact Nat.le_add_right _ _
        rcases o4.2.1 with h4 | h4
        · refine ⟨by omega, .inl (by dsimp only; omega), fun h => ?_⟩
          have := o4.2.2 h
          rw [hz] at this
          cases this
        · rw [hz] at h4
          cases h4
      have hlen : by_.length ≤ (Word.getB bs s4.1 n).2.2 - s3.1 := by
        have h2 := o4.1
        rw [hby]
        unfold Word.getB
        split
        · simp
        · split
          · simp
          · dsimp only
            rw [List.length_take]
            omega
      rw [← hby, ← her] at rb
      rw [← her] at ob
      have hX5 := m5.blk hX4 hXn
      have hV5 := m5.blk hV4 hVr
      have hE5 := m5.blk hE4 hEr
      generalize (Word.getB bs s4.1 n).2.2 = i5 at rb ob hlen q5
      have lb5 := bytes_rep (S := fun b => b < w3.heap.size) own5 (by have := rb.2.1; have := rb.1; dsimp only at *; omega) (fun b hb e => by have := m4.size; omega)
      have nd := New.drew w5
      refine draw_ (w := w5) ok (.q 0 (.q 1 (.q 2 (.q 3 (.q 4 (.e 5 (.q 6 (.q 7 (.e 8 .done))))))))) [8] (fun w'' : World => w''.heap[X]? = some (.cells #[.pointer (some ⟨h, 0, none⟩)] 104 (0, 0))) (by kernel_rfl) (by kernel_rfl) (by kernel_rfl) (by kernel_rfl) (by kernel_rfl) (nd.blk hX5) ?_
      refine Exists.intro (some ⟨h, 0, none⟩) (And.intro (fun w'' hw => cell0 hw) ?_)
      have hEd := nd.blk hE5
      refine And.intro ⟨_, cellB hEd rfl⟩ (And.intro (fzB hEd _) (force_ ?_))
      refine stK hEd (show (2 : Nat) < 5 by decide) ?_
      intro w6 hE6 m6 s6
      have hX6 := m6.blk (nd.blk hX5) (show ¬ X = E by omega)
      refine Exists.intro (fun w'' : World => w''.heap[X]? = some (.cells #[.pointer (some ⟨h, 0, none⟩)] 104 (0, 0))) ?_
      refine And.intro (fun _ h => h) ?_
      refine And.intro (hX6) ?_
      have q6 := (q5.new nd).modN m6 (fun b hb e => hE0 b hb e)
      have hb6 := q6.blk
      refine And.intro ⟨_, cellB hb6 rfl⟩ (And.intro (fzB hb6 _) (force_ ?_))
      refine stK hb6 (show (2 : Nat) < 3 by decide) ?_
      intro w7 hb7 m7 s7
      have m57 : Mod (fun b => RS h g b ∨ b = E) w5 w7 := Mod.trans (Mod.trans nd.mod (m6.mono fun _ _ e => .inr e) fun _ _ e => e) (m7.mono fun _ _ e => .inl (.inr e)) fun _ _ e => e
      have lb7 := LRep.mod u8Ok (by decide) lb5 (m57.mono fun b _ e => e.elim (fun e => by have := hrs1 _ e; omega) (fun e => by omega))
      exact hK ((A5, c5), by_) _ _ ⟨rfl, rfl, rfl, trivial⟩ ⟨(i5, !decide (er = 0)), rb, hlen, ob, lb7, q6.set m7 hb7, Mod.trans (both m4 m5 |>.mono fun _ _ e => .inl e) m57 fun _ _ e => e, m7.blk hX6 (fun e => hXn (.inr e)), m7.blk (m6.blk (nd.blk hV5) (show ¬ V = E by omega)) (fun e => hVr (.inr e)), m7.blk hE6 (fun e => hEr (.inr e))⟩
    · replace hz : s4.2 = true := by simpa using hz
      exact hK ((none, 0), []) _ _ ⟨rfl, rfl, rfl, trivial⟩ ⟨s4, Rd.blobN r4 hz [], by simp, o4, LRep.nil _ _ _ trivial, q4, m4.mono fun _ _ e => .inl e, hX4, hV4, hE4⟩
  rintro ⟨⟨Ab, cb⟩, by_⟩ w4 fr4 ⟨s4, r4, hb4, o4, lb4, q4, m4, hX4, hV4, hE4⟩
  dsimp only at r4 hb4 lb4 hE4
  have hz4 := m4.size
  have lmv : ∀ {b : Nat}, RS h g b ∨ b = E → b < w3.heap.size := fun e => e.elim (fun e => by have := hrs1 _ e; omega) (fun e => by omega)
  -- its handlers
  refine seq_cut (σ := (Option Addr × Nat) × List Hnd) (fun _ => [(1, .pointer (some ⟨X, 0, none⟩)), (2, .pointer (some ⟨V, 0, none⟩)), (3, .pointer (some ⟨E, 0, none⟩))]) (fun t w' => ∃ s5, Rd (hndsT p.l) bs s4 t.2 s5 ∧ csum cHnd t.2 ≤ (0 + 8) * (s5.1 - s4.1) + 8 ∧ On s4 s5 ∧ LRep hndR w' (fun b => b < w3.heap.size) (.slice t.1.1 t.2.length t.1.2) t.2 ∧ Ir w' h g A c bs p s5 ∧ Mod (fun b => RS h g b ∨ b = E) w4 w' ∧ w'.heap[X]? = some (.cells #[.pointer (some ⟨h, 0, none⟩)] 104 (0, 0)) ∧ w'.heap[V]? = some (.cells #[zi 0, zi 0, .slice none 0 0, .slice none 0 0, .slice none 0 0] 34 (0, 0)) ∧ w'.heap[E]? = some (.cells #[zi n2, zi n3, .slice Ab by_.length cb, .slice t.1.1 t.2.length t.1.2, .slice none 0 0] 34 (0, 0))) ?_ ?_
  rotate_left
  · intro K hK
    refine Exists.intro (some ⟨h, 0, none⟩) (And.intro (cell0 hX4) ?_)
    refine call_ (members_hnd h g A c bs p s4 w4 q4 hO X hX4 hXn hm) ?_
    rintro e wa ⟨v, hs, sa, rfl, la, ra, ca, _, oa, qa, ma⟩
    obtain ⟨Ah, ch, rfl, _⟩ := la.get hndOk (by decide)
    refine ⟨_, rfl, ?_⟩
    have hEa := ma.blk hE4 hEr
    refine And.intro ⟨_, cellB hEa rfl⟩ (And.intro (fzB hEa _) (force_ ?_))
    refine stK hEa (show (3 : Nat) < 5 by decide) ?_
    intro wb hEb mb sb
    exact hK ((Ah, ch), hs) _ _ ⟨rfl, rfl, rfl, trivial⟩ ⟨sa, ra, ca, oa, LRep.weak hndOk (LRep.mod hndOk (by decide) la (mb.mono fun b _ e => by omega)) (fun b _ e => by omega), qa.modN mb (fun b hb e => hE0 b hb e), Mod.trans (ma.mono fun _ _ e => .inl e) mb fun _ _ e => .inr e, mb.blk (ma.blk hX4 hXn) (show ¬ X = E by omega), mb.blk (ma.blk hV4 hVr) (show ¬ V = E by omega), hEb⟩
  rintro ⟨⟨Ah, ch⟩, hs⟩ w5 fr5 ⟨s5, r5, hc5, o5, lh5, q5, m5, hX5, hV5, hE5⟩
  dsimp only at r5 hc5 lh5 hE5
  have hz5 := m5.size
  have lb5 := LRep.mod u8Ok (by decide) lb4 (m5.mono fun b _ e => lmv e)
  have a0 : Mod (RS h g) w w3 := Mod.trans n0.mod (both m1 m3) fun _ _ e => e
  have a5 : Mod (RS h g) w w5 := Mod.trans a0 (both m4 m5) fun b hb e => e.elim id fun e => by omega
  have fin : ∀ (ms : List Mp) (Am : Option Addr) (cm : Nat) (s9 : RSt) (wz wf : World), w5.heap.size ≤ wz.heap.size → LRep mpR wz (fun b => b < w3.heap.size) (.slice Am ms.length cm) ms → LRep u8R wz (fun b => b < w3.heap.size) (.slice Ab by_.length cb) by_ → LRep hndR wz (fun b => b < w3.heap.size) (.slice Ah hs.length ch) hs →
      Rd (optT p.l) bs s5 ms s9 → csum cMp ms ≤ 22 * (s9.1 - s5.1) + 16 → On s5 s9 → Ir wz h g A c bs p s9 → Mod (fun b => RS h g b ∨ b = E ∨ w5.heap.size ≤ b) w5 wz → Mod (fun b => b = V) wz wf →
      ∃ cs x s', Ending.returned (.agg #[zi n2, zi n3, .slice Ab by_.length cb, .slice Ah hs.length ch, .slice Am ms.length cm]) = .returned (.agg (List.toArray cs)) ∧ codR wf (fun b => b < w.heap.size) cs x ∧ Rd (partT (codT p.l)) bs s x s' ∧ cCod x ≤ 22 * (s'.1 - s.1) + 44 ∧ On s s' ∧ Ir wf h g A c bs p s' ∧ Mod (RS h g) w wf := by
    intro ms Am cm s9 wz wf hzz lm lb lh r9 hc9 o9 q9 mz mf
    have lf : ∀ {α : Type} {R : RepT α} {n : Nat} {v : Value} {xs : List α}, RepOk R n → 0 < n → LRep R wz (fun b => b < w3.heap.size) v xs → LRep R wf (fun b => b < w.heap.size) v xs := fun k hn l => LRep.weak k (LRep.mod k hn l (mf.mono fun b _ e => by omega)) fun b _ e => by omega
    refine ⟨_, ⟨n2, n3, by_, hs, ms⟩, s9, rfl, ⟨_, _, _, rfl, lf u8Ok (by decide) lb, lf hndOk (by decide) lh, lf mpOk (by decide) lm⟩, ?_, ?_, ?_, q9.modN mf (fun b hb e => hVn b hb e), ?_⟩
    · exact Rd.part r1 (Rd.byP (f := fun c : Cod => (c.stack, c.locals, c.bytes, c.hands, c.maps)) (y := ⟨n2, n3, by_, hs, ms⟩) (r2.seq (r3.seq (r4.seq (r5.seq r9)))) (fun z e => by cases z; cases e; rfl)) hm
    · have a1 := o1.1
      have a2 := o2.1
      have a3 := o3.1
      have a4 := o4.1
      have a5 := o5.1
      have a9 := o9.1
      show 4 + (4 + by_.length) + (2 + csum cHnd hs) + (10 + csum cMp ms) ≤ _
      omega
    · exact o1.trans (o2.trans (o3.trans (o4.trans (o5.trans o9))))
    · have az : Mod (RS h g) w wz := Mod.trans a5 mz fun b hb e => by
        have := a5.size
        rcases e with e | e | e
        · exact e
        · omega
        · omega
      exact Mod.trans az mf fun b hb e => by omega
  -- its maps
  refine seq_cut (σ := Int) (fun _ => [(1, .pointer (some ⟨X, 0, none⟩)), (2, .pointer (some ⟨V, 0, none⟩)), (3, .pointer (some ⟨E, 0, none⟩))]) (fun n w' => ∃ s6, n ≠ 0 ∧ Rd Class.n2 bs s5 n s6 ∧ On s5 s6 ∧ Ir w' h g A c bs p s6 ∧ Mod (RS h g) w5 w') ?_ ?_
  rotate_left
  · intro K hK
    refine Exists.intro (some ⟨h, 0, none⟩) (And.intro (cell0 hX5) ?_)
    refine call_ (u_ok h g A c bs p s5 2 Pool.w2 w5 q5) ?_
    rintro e wa ⟨na, sa, rfl, ra, hba, oa, qa, ma⟩
    refine ⟨_, rfl, ?_⟩
    refine if_p (fun h0 => ?_) (fun h0 => ?_)
    · replace h0 : na = 0 := h0
      have hEa := ma.blk hE5 hEr
      have hVa := ma.blk hV5 hVr
      refine loadN_row (vs := [zi n2, zi n3, .slice Ab by_.length cb, .slice Ah hs.length ch, .slice none 0 0]) (rowB hEa) rfl ?_
      refine And.intro rfl ?_
      refine storeN_all (vs := [zi n2, zi n3, .slice Ab by_.length cb, .slice Ah hs.length ch, .slice none 0 0]) hVa rfl (ones5 _ _ _ _ _ _ _ _ _ _ _) ?_
      intro wb hb mb sb
      refine loadN_row (vs := [zi n2, zi n3, .slice Ab by_.length cb, .slice Ah hs.length ch, .slice none 0 0]) (rowB hb) rfl ?_
      exact fin [] none 0 sa wa wb ma.size (LRep.nil _ _ _ trivial) (LRep.mod u8Ok (by decide) lb5 (ma.mono fun b _ e => lmv (.inl e))) (LRep.mod hndOk (by decide) lh5 (ma.mono fun b _ e => lmv (.inl e))) (Rd.opt0 ra h0) (Nat.zero_le _) oa qa (ma.mono fun _ _ e => .inl e) mb
    · replace h0 : ¬ na = 0 := h0
      exact hK na _ _ ⟨rfl, rfl, rfl, trivial⟩ ⟨sa, h0, ra, oa, qa, ma⟩
  rintro nn w6 fr6 ⟨s6, hn6, r6, o6, q6, m6⟩
  have hX6 := m6.blk hX5 hXn
  have hV6 := m6.blk hV5 hVr
  have hE6 := m6.blk hE5 hEr
  refine seq_cut (σ := Int) (fun _ => [(1, .pointer (some ⟨X, 0, none⟩)), (2, .pointer (some ⟨V, 0, none⟩)), (3, .pointer (some ⟨E, 0, none⟩))]) (fun n w' => ∃ s7, Rd Class.n2 bs s6 n s7 ∧ On s6 s7 ∧ Ir w' h g A c bs p s7 ∧ Mod (RS h g) w6 w') ?_ ?_
  rotate_left
  · intro K hK
    refine Exists.intro (some ⟨h, 0, none⟩) (And.intro (cell0 hX6) ?_)
    refine call_ (u_ok h g A c bs p s6 2 Pool.w2 w6 q6) ?_
    rintro e wa ⟨na, sa, rfl, ra, hba, oa, qa, ma⟩
    refine ⟨_, rfl, ?_⟩
    exact hK na _ _ ⟨rfl, rfl, rfl, trivial⟩ ⟨sa, ra, oa, qa, ma⟩
  rintro m7' w7 fr7 ⟨s7, r7, o7, q7, m7⟩
  have hX7 := m7.blk hX6 hXn
  have hV7 := m7.blk hV6 hVr
  have hE7 := m7.blk hE6 hEr
  refine seq_cut (σ := Int) (fun _ => [(1, .pointer (some ⟨X, 0, none⟩)), (2, .pointer (some ⟨V, 0, none⟩)), (3, .pointer (some ⟨E, 0, none⟩))]) (fun n w' => ∃ s8, Rd Class.n4 bs s7 n s8 ∧ On s7 s8 ∧ Ir w' h g A c bs p s8 ∧ Mod (RS h g) w7 w') ?_ ?_
  rotate_left
  · intro K hK
    refine Exists.intro (some ⟨h, 0, none⟩) (And.intro (cell0 hX7) ?_)
    refine call_ (u_ok h g A c bs p s7 4 Pool.w4 w7 q7) ?_
    rintro e wa ⟨na, sa, rfl, ra, hba, oa, qa, ma⟩
    refine ⟨_, rfl, ?_⟩
    exact hK na _ _ ⟨rfl, rfl, rfl, trivial⟩ ⟨sa, ra, oa, qa, ma⟩
  rintro m8' w8 fr8 ⟨s8, r8, o8, q8, m8⟩
  have hX8 := m8.blk hX7 hXn
  have hV8 := m8.blk hV7 hVr
  have hE8 := m8.blk hE7 hEr
  have m58 : Mod (RS h g) w5 w8 := both (both m6 m7) m8
  have hz8 := m58.size
  refine seq_cut (σ := Nat) (fun L => [(1, .pointer (some ⟨X, 0, none⟩)), (2, .pointer (some ⟨V, 0, none⟩)), (3, .pointer (some ⟨E, 0, none⟩)), (7, .pointer (some ⟨L, 0, none⟩))]) (fun L w' => New w8 w' ∧ w8.heap.size ≤ L ∧ w'.heap[L]? = some (.cells #[zi (-1)] 3 (0, 0))) ?_ ?_
  rotate_left
  · intro K hK
    have n9 := New.alloc w8 (.cells #[zi 0] 3)
    have hb9 := heap_alloc_new w8 (.cells #[zi 0] 3)
    refine And.intro ⟨_, cell0 hb9⟩ (And.intro (fz0 hb9) (force_ ?_))
    refine st0 hb9 (show (0 : Nat) < 1 by decide) ?_
    intro wa hb ma sa
    exact hK w8.heap.size _ _ ⟨rfl, rfl, rfl, rfl, trivial⟩ ⟨New.made ma, Nat.le_refl _, hb⟩
  rintro L w9 fr9 ⟨n9, hLw, hL9⟩
  have q9 := q8.new n9
  have hX9 := n9.blk hX8
  have hV9 := n9.blk hV8
  have hE9 := n9.blk hE8
  have hz9 := n9.size
  have hLn : ∀ b, Iin h g A bs p b → b ≠ L := fun b hb e => by have := q.lt hb; omega
  refine seq_cut (σ := (Option Addr × Nat) × List Mp) (fun _ => [(1, .pointer (some ⟨X, 0, none⟩)), (2, .pointer (some ⟨V, 0, none⟩)), (3, .pointer (some ⟨E, 0, none⟩)), (7, .pointer (some ⟨L, 0, none⟩))]) (fun t w' => ∃ s9, Rd (mapsT p.l) bs s8 t.2 s9 ∧ csum cMp t.2 ≤ (6 + 16) * (s9.1 - s8.1) + 16 ∧ On s8 s9 ∧ LRep mpR w' (fun b => b < w3.heap.size) (.slice t.1.1 t.2.length t.1.2) t.2 ∧ Ir w' h g A c bs p s9 ∧ Mod (fun b => RS h g b ∨ b = E ∨ b = L) w9 w' ∧ w'.heap[V]? = some (.cells #[zi 0, zi 0, .slice none 0 0, .slice none 0 0, .slice none 0 0] 34 (0, 0)) ∧ w'.heap[E]? = some (.cells #[zi n2, zi n3, .slice Ab by_.length cb, .slice Ah hs.length ch, .slice t.1.1 t.2.length t.1.2] 34 (0, 0))) ?_ ?_
  rotate_left
  · intro K hK
    refine Exists.intro (some ⟨h, 0, none⟩) (And.intro (cell0 hX9) ?_)
    refine call_ (members_map h g A c bs p s8 w9 q9 hO X L hX9 hXn hL9 hLn (by omega) hm) ?_
    rintro e wa ⟨v, ms, sa, rfl, la, ra, ca, _, oa, qa, ma⟩
    obtain ⟨Am, cm, rfl, _⟩ := la.get mpOk (by decide)
    refine ⟨_, rfl, ?_⟩
    have hEa := ma.blk hE9 (fun e => e.elim hEr (by omega))
    refine And.intro ⟨_, cellB hEa rfl⟩ (And.intro (fzB hEa _) (force_ ?_))
    refine stK hEa (show (4 : Nat) < 5 by decide) ?_
    intro wb hEb mb sb
    exact hK ((Am, cm), ms) _ _ ⟨rfl, rfl, rfl, rfl, trivial⟩ ⟨sa, ra, ca, oa, LRep.weak mpOk (LRep.mod mpOk (by decide) la (mb.mono fun b _ e => by omega)) (fun b _ e => by omega), qa.modN mb (fun b hb e => hE0 b hb e), Mod.trans (ma.mono fun _ _ e => e.elim .inl fun e => .inr (.inr e)) mb fun _ _ e => .inr (.inl e), mb.blk (ma.blk hV9 (fun e => e.elim hVr (by omega))) (show ¬ V = E by omega), hEb⟩
  rintro ⟨⟨Am, cm⟩, ms⟩ wz frz ⟨s9, r9, hc9, o9, lm9, qz, mz, hVz, hEz⟩
  dsimp only at r9 hc9 lm9 hEz
  have hzz := mz.size
  refine loadN_row (vs := [zi n2, zi n3, .slice Ab by_.length cb, .slice Ah hs.length ch, .slice Am ms.length cm]) (rowB hEz) rfl ?_
  refine And.intro rfl ?_
  refine storeN_all (vs := [zi n2, zi n3, .slice Ab by_.length cb, .slice Ah hs.length ch, .slice Am ms.length cm]) hVz rfl (ones5 _ _ _ _ _ _ _ _ _ _ _) ?_
  intro wb hb mb sb
  refine loadN_row (vs := [zi n2, zi n3, .slice Ab by_.length cb, .slice Ah hs.length ch, .slice Am ms.length cm]) (rowB hb) rfl ?_
  have m5z : Mod (fun b => RS h g b ∨ b = E ∨ w5.heap.size ≤ b) w5 wz := Mod.trans ((both m58 n9.mod).mono fun _ _ e => .inl e) mz fun b _ e => by
    rcases e with e | e | e
    · exact .inl e
    · exact .inr (.inl e)
    · exact .inr (.inr (by omega))
  have lmz : ∀ b, b < w5.heap.size → RS h g b ∨ b = E ∨ w5.heap.size ≤ b → b < w3.heap.size := fun b h1 e => by
    rcases e with e | e | e
    · exact lmv (.inl e)
    · exact lmv (.inr e)
    · omega
  refine fin ms Am cm s9 wz wb (by omega) lm9 ?_ ?_ (Rd.opt1 r6 hn6 r7 r8 r9 hm) ?_ (o6.trans (o7.trans (o8.trans o9))) qz m5z mb
  · exact LRep.mod u8Ok (by decide) lb5 (m5z.mono lmz)
  · exact LRep.mod hndOk (by decide) lh5 (m5z.mono lmz)
  · have a6 := o6.1
    have a7 := o7.1
    have a8 := o8.1
    have a9 := o9.1
    omega

end Go.Proofs.YtdcaafldnbcdkaaDoor.Class

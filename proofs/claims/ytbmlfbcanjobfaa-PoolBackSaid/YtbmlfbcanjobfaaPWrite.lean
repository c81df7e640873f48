/- The package pool, walked: a pool written. -/
import Derived.Test.YtbmlfbcanjobfaaPRead
import Derived.Test.YtbmlfbcanjobfaaWPut
import Derived.Test.YtbmlfbcanjobfaaPWalk11
import Derived.Test.YtbmlfbcanjobfaaStr
namespace Go.Proofs.Ytbmlfbcanjobfaa.Pool
open Go Go.Proofs.Ytbmlfbcanjobfaa Go.Proofs.Ytbmlfbcanjobfaa.Eng Go.Proofs Go.Proofs.Ytbmlfbcanjobfaa.Word Go.Proofs.Ytbmlfbcanjobfaa.Fmt
set_option maxRecDepth 10000

/-- What is written of an entry. -/
inductive Parts (x : Ent) : Prop
  | utf (t : x.tag = 1) (h : Word.fits (2 : Nat) (x.text.length : Int) false = true) (e : entF.enc x = enc 1 x.tag ++ (enc 2 (x.text.length : Int) ++ x.text))
  | int (t : x.tag = 3) (h : Word.fits (4 : Nat) x.n true = true) (e : entF.enc x = enc 1 x.tag ++ enc 4 x.n)
  | long (t : x.tag = 5) (h : Word.fits (8 : Nat) x.n true = true) (e : entF.enc x = enc 1 x.tag ++ enc 8 x.n)
  | cls (t : x.tag = 7) (h : Word.fits (2 : Nat) x.a false = true) (e : entF.enc x = enc 1 x.tag ++ enc 2 x.a)
  | two (t : ¬ x.tag = 1 ∧ ¬ x.tag = 3 ∧ ¬ x.tag = 5 ∧ ¬ x.tag = 7) (h : Word.fits (2 : Nat) x.a false = true) (k : Word.fits (2 : Nat) x.b false = true) (e : entF.enc x = enc 1 x.tag ++ (enc 2 x.a ++ enc 2 x.b))
theorem ent_parts {x : Ent} (h : entF.ok x) : Word.fits (1 : Nat) x.tag false = true ∧ Parts x := by
  obtain ⟨_, ⟨h1, _⟩, h2⟩ := h
  refine ⟨h1, ?_⟩
  simp only at h2
  have he : entF.enc x = enc 1 x.tag ++ (bodyF x.tag).enc x := rfl
  unfold bodyF at h2 he
  split at h2
  · rename_i ht
    rw [if_pos ht] at he
    exact .utf ht h2.2.1 he
  rename_i n1
  rw [if_neg n1] at he
  split at h2
  · rename_i ht
    rw [if_pos ht] at he
    exact .int ht h2.2.1 he
  rename_i n3
  rw [if_neg n3] at he
  split at h2
  · rename_i ht
    rw [if_pos ht] at he
    exact .long ht h2.2.1 he
  rename_i n5
  rw [if_neg n5] at he
  split at h2
  · rename_i ht
    rw [if_pos ht] at he
    exact .two ⟨n1, n3, n5, by omega⟩ h2.2.1.1 h2.2.2.1 he
  rename_i n9
  rw [if_neg n9] at he
  split at h2
  · rename_i ht
    rw [if_pos ht] at he
    exact .cls ht h2.2.1 he
  · exact h2.elim
theorem fits2_lt {n : Nat} (h : Word.fits (2 : Nat) (n : Int) false = true) : n < 65536 := by
  simp [Word.fits] at h
  omega
theorem ent_len {x : Ent} (h : entF.ok x) : (entF.enc x).length ≤ 65600 := by
  obtain ⟨_, p⟩ := ent_parts h
  cases p with
  | utf t h e => rw [e]; have := fits2_lt h; simp only [List.length_append, enc_length]; omega
  | int t h e => rw [e]; simp only [List.length_append, enc_length]; omega
  | long t h e => rw [e]; simp only [List.length_append, enc_length]; omega
  | cls t h e => rw [e]; simp only [List.length_append, enc_length]; omega
  | two t h k e => rw [e]; simp only [List.length_append, enc_length]; omega
theorem ents_take {l : List Ent} {i : Nat} (hi : i < l.length) : ents (l.take (i + 1)) = ents (l.take i) ++ if (at_ l i).tag = 0 then [] else entF.enc (at_ l i) := by
  rw [List.take_succ_eq_append_getElem hi, ents_app, at_lt hi]
  congr 1
  unfold ents
  by_cases h : l[i].tag = 0
  · rw [List.filter_cons_of_neg (by unfold isIt; rw [decide_eq_true h]; decide), if_pos h]
    rfl
  · rw [List.filter_cons_of_pos (by unfold isIt; rw [decide_eq_false h]; rfl), if_neg h]
    simp
theorem right_ent {l : List Ent} (h : OkPool l) (hn : ∀ x ∈ l, EntOk x) {i : Nat} (hi : i < l.length) (ht : (at_ l i).tag ≠ 0) : entF.ok (at_ l i) := by
  obtain ⟨_, hf⟩ := tag_right h.1 hi ht
  refine ok_entF ?_ ⟨l, i, fits_demand hf, h.2⟩ (by rw [at_lt hi]; exact (hn _ (List.getElem_mem hi)).n)
  unfold Pool.fits at hf
  rw [Bool.and_eq_true] at hf
  exact of_decide_eq_true hf.1
theorem ents_take_len {l : List Ent} (h : OkPool l) (hn : ∀ x ∈ l, EntOk x) : ∀ i, i ≤ l.length → (ents (l.take i)).length ≤ 65600 * i
  | 0, _ => by simp [ents]
  | i + 1, hi => by
    rw [ents_take (by omega), List.length_append]
    have h1 := ents_take_len h hn i (by omega)
    have h2 : (if (at_ l i).tag = 0 then [] else entF.enc (at_ l i)).length ≤ 65600 := by
      split
      · simp
      · rename_i ht
        exact ent_len (right_ent h hn (by omega) ht)
    omega
theorem ents_all {l : List Ent} (h : Okp l) : ents (l.drop 1) = ents l := by
  have h0 := h.pos
  have h1 := h.head
  cases l with
  | nil => simp at h0
  | cons x r =>
    have : x = e0 := h1
    subst this
    show ents r = ents (e0 :: r)
    unfold ents
    rw [List.filter_cons_of_neg (by decide)]
theorem Pl.mod {S : Nat → Prop} {w w' : World} {A : Option Addr} {n : Nat} {l : List Ent} (h : Pl w A n l) (k : Mod S w w') (ha : ∀ a, A = some a → l ≠ [] → ¬ S a.block) : Pl w' A n l := by
  refine ⟨h.len, ?_, h.oks, h.top⟩
  intro i cs hi
  obtain ⟨h1, a, h2, h3⟩ := h.row i cs hi
  refine ⟨h1, a, h2, fun j u hu => ?_⟩
  have hne : l ≠ [] := by
    rintro rfl
    simp at hi
  exact k.cell (h3 j u hu) (by rw [add_block, add_block]; exact ha a h2 hne)
theorem Write_ok (base g : Nat) (v : Value) (bs : List UInt8) (A : Option Addr) (n q : Nat) (l : List Ent) (w : World) (h : Wr w base g v bs) (hl : Pl w A n l) (hd : ∀ a, A = some a → l ≠ [] → ¬ WS g v a.block) (hm : bs.length ≤ 500000000) (hb : base ≤ w.heap.size) :
    Calls Try.prog 18 #[.pointer (some ⟨g, 0, none⟩), .slice A n q] w fun e w' => e = .returned (.int .i64 (chk l)) ∧ ∃ v', Wk w base g v w' v' (if okB l = true then bs ++ poolF.enc l else bs) := by
  refine enter ok Try.func18 rfl rfl rfl ?_
  refine call_ (Check_ok A n q l w hl) ?_
  rintro e w0 ⟨rfl, n0⟩
  refine ⟨_, rfl, ?_⟩
  have hr0 := (Wk.refl h).new n0
  rcases chk_cases l with ⟨hc, ho⟩ | ⟨hc, ho⟩
  · rw [hc, ho]
    exact ⟨rfl, v, hr0⟩
  rw [hc, ho, if_pos rfl]
  have hO := (okB_iff l).1 ho
  have hlen := hl.len
  have htop := hl.top
  have h1024 := hO.2
  refine call_ (WU1 base g v bs 2 n w0 hr0.wr Pool.w2 (fits2 (by omega) (by omega)).1 (by omega) (Nat.le_trans hb n0.size)) ?_
  rintro e w1 ⟨rfl, v1, k1⟩
  refine ⟨_, rfl, ?_⟩
  have hr1 := hr0.then k1
  clear k1
  refine den_loop (σ := Nat) (fun i => [(0, .pointer (some ⟨g, 0, none⟩)), (6, .int .i64 0), (19, .slice A n q), (20, .int .i64 n), (21, .int .i64 i)])
    (fun m i wl => i ≤ n ∧ m = n - i ∧ ∃ v', Wk w base g v wl v' (bs ++ (enc 2 (n : Int) ++ ents (l.take i)))) n 0 ⟨rfl, rfl, rfl, rfl, rfl, trivial⟩ ⟨Nat.zero_le _, rfl, v1, by simpa [ents] using hr1⟩ ?_
  rintro m i wl fr0 ⟨hi, rfl, vl, kl⟩
  refine if_p (fun hlt => ?_) (fun hge => ?_)
  · replace hlt : (i : Int) < n := hlt
    have hil : i < l.length := by omega
    have hplx := hl.mod kl.mod hd
    obtain ⟨a, rfl, hxo, hxc⟩ := hplx.at_ (i := i) (by omega)
    have hbl := ents_take_len hO hl.oks i (by omega)
    have hbb : (bs ++ (enc 2 (n : Int) ++ ents (l.take i))).length ≤ 600000000 := by
      simp only [List.length_append, enc_length]
      omega
    have hbase : ∀ {w' v' bs'}, Wk w base g v w' v' bs' → base ≤ w'.heap.size := fun k => Nat.le_trans hb k.mod.size
    refine And.intro (by omega) (And.intro (by omega) ?_)
    refine loadN_row (vs := entC (at_ l i)) (fun j u hu => by rw [Int.toNat_natCast]; exact hxc j u hu) rfl ?_
    refine And.intro rfl ?_
    refine storeNew (vs := entC (at_ l i)) (arr := entZ) rfl (entC_one _) ?_
    intro w5 hb5 n5 s5
    have k5 := kl.new n5
    have goal : ∀ w' v', Wk w base g v w' v' (bs ++ (enc 2 (n : Int) ++ ents (l.take i)) ++ if (at_ l i).tag = 0 then [] else entF.enc (at_ l i)) → (i + 1 ≤ n ∧ n - (i + 1) = n - (i + 1) ∧ ∃ v', Wk w base g v w' v' (bs ++ (enc 2 (n : Int) ++ ents (l.take (i + 1))))) := fun w' v' k => ⟨by omega, rfl, v', by
      rw [ents_take hil]
      simpa using k⟩
    have inc : Value.int .i64 (IntKind.i64.wrap ((i : Int) + 1)) = .int .i64 ((i + 1 : Nat) : Int) := by
      rw [wrap_i64 (by omega) (by omega)]
      rfl
    refine Exists.intro (at_ l i).tag (And.intro (cellB hb5 rfl) ?_)
    refine if_p (fun h0 => ?_) (fun h0 => ?_)
    · replace h0 : (at_ l i).tag = 0 := h0
      refine ⟨n - (i + 1), i + 1, by omega, ⟨rfl, rfl, rfl, rfl, inc, trivial⟩, goal w5 vl ?_⟩
      rw [if_pos h0, List.append_nil]
      exact k5
    replace h0 : ¬ (at_ l i).tag = 0 := h0
    rw [if_neg h0] at goal
    have hok := right_ent hO hl.oks hil h0
    obtain ⟨hf1, hparts⟩ := ent_parts hok
    refine Exists.intro (at_ l i).tag (And.intro (cellB hb5 rfl) ?_)
    refine call_ (WU1 base g vl _ 1 (at_ l i).tag w5 k5.wr Pool.w1 hf1 (by omega) (hbase k5)) ?_
    rintro e w8 ⟨rfl, v8, j8⟩
    refine ⟨_, rfl, ?_⟩
    have k8 := k5.then j8
    have hne5 : ¬ WS g vl wl.heap.size := by
      rintro (e | e)
      · have := kl.wr.lt; omega
      · have := (kl.wr.vlt e.symm).2; omega
    have hb8 := j8.mod.blk hb5 hne5
    have hne8 : ¬ WS g v8 wl.heap.size := by
      rintro (e | e)
      · have := kl.wr.lt; omega
      · rcases j8.st _ e.symm with h' | h'
        · exact hne5 (.inr h'.symm)
        · have := n5.size; omega
    refine Exists.intro (at_ l i).tag (And.intro (cellB hb8 rfl) ?_)
    have close : ∀ w' v' ys, Wk w base g v w' v' ((bs ++ (enc 2 (n : Int) ++ ents (l.take i))) ++ enc 1 (at_ l i).tag ++ ys) → entF.enc (at_ l i) = enc 1 (at_ l i).tag ++ ys → Wk w base g v w' v' (bs ++ (enc 2 (n : Int) ++ ents (l.take i)) ++ entF.enc (at_ l i)) := fun w' v' ys k e => by
      rw [e, ← List.append_assoc]
      exact k
    have hl1 : ((bs ++ (enc 2 (n : Int) ++ ents (l.take i))) ++ enc 1 (at_ l i).tag).length ≤ 600000001 := by rw [List.length_append, enc_length]; omega
    refine if_p (fun h1 => ?_) (fun h1 => ?_)
    · replace h1 : (at_ l i).tag = 1 := h1
      cases hparts with
      | utf _ hf he =>
        have htl := fits2_lt hf
        refine Exists.intro (⟨(at_ l i).text.toArray⟩ : ByteArray) (And.intro (cellB hb8 rfl) ?_)
        have hsz : ((ByteArray.mk (at_ l i).text.toArray).size : Int) = (((at_ l i).text.length : Nat) : Int) := by rw [size_str]
        refine call_ (WU1 base g v8 _ 2 ((ByteArray.mk (at_ l i).text.toArray).size : Int) w8 k8.wr Pool.w2 (by rw [hsz]; exact hf) (by omega) (hbase k8)) ?_
        rintro e w11 ⟨rfl, v11, j11⟩
        rw [hsz] at j11
        refine ⟨_, rfl, ?_⟩
        have k11 := k8.then j11
        have hb11 := j11.mod.blk hb8 hne8
        refine Exists.intro (⟨(at_ l i).text.toArray⟩ : ByteArray) (And.intro (cellB hb11 rfl) ?_)
        refine str_bytes_ ok rfl rfl rfl rfl rfl rfl (l := (at_ l i).text) rfl (by omega) ?_
        intro c13 w13 hc13 hcm13 row13 n13 s13
        have k13 := k11.new n13
        refine call_ (WB1 base g v11 _ (some ⟨w11.heap.size, 0, none⟩) (at_ l i).text.length c13 (at_ l i).text w13 k13.wr row13 rfl (by simp only [List.length_append, enc_length] at hl1 ⊢; omega) (hbase k13)) ?_
        rintro e w14 ⟨rfl, v14, j14⟩
        refine ⟨_, rfl, ?_⟩
        have k14 := k13.then j14
        refine ⟨n - (i + 1), i + 1, by omega, ⟨rfl, rfl, rfl, rfl, inc, trivial⟩, goal w14 v14 (close _ _ _ ?_ he)⟩
        simpa using k14
      | int t => omega
      | long t => omega
      | cls t => omega
      | two t => exact absurd h1 t.1
    replace h1 : ¬ (at_ l i).tag = 1 := h1
    refine if_p (fun h3 => ?_) (fun h3 => ?_)
    · replace h3 : (at_ l i).tag = 3 := h3
      cases hparts with
      | int _ hf he =>
        refine Exists.intro (at_ l i).n (And.intro (cellB hb8 rfl) ?_)
        refine call_ (WS1 base g v8 _ 4 (at_ l i).n w8 k8.wr Pool.w4 hf (by omega) (hbase k8)) ?_
        rintro e w11 ⟨rfl, v11, j11⟩
        refine ⟨_, rfl, ?_⟩
        exact ⟨n - (i + 1), i + 1, by omega, ⟨rfl, rfl, rfl, rfl, inc, trivial⟩, goal w11 v11 (close _ _ _ (k8.then j11) he)⟩
      | utf t => omega
      | long t => omega
      | cls t => omega
      | two t => exact absurd h3 t.2.1
    replace h3 : ¬ (at_ l i).tag = 3 := h3
    refine if_p (fun h5 => ?_) (fun h5 => ?_)
    · replace h5 : (at_ l i).tag = 5 := h5
      cases hparts with
      | long _ hf he =>
        refine Exists.intro (at_ l i).n (And.intro (cellB hb8 rfl) ?_)
        refine call_ (WS1 base g v8 _ 8 (at_ l i).n w8 k8.wr Pool.w8 hf (by omega) (hbase k8)) ?_
        rintro e w11 ⟨rfl, v11, j11⟩
        refine ⟨_, rfl, ?_⟩
        exact ⟨n - (i + 1), i + 1, by omega, ⟨rfl, rfl, rfl, rfl, inc, trivial⟩, goal w11 v11 (close _ _ _ (k8.then j11) he)⟩
      | utf t => omega
      | int t => omega
      | cls t => omega
      | two t => exact absurd h5 t.2.2.1
    replace h5 : ¬ (at_ l i).tag = 5 := h5
    refine if_p (fun h7 => ?_) (fun h7 => ?_)
    · replace h7 : (at_ l i).tag = 7 := h7
      cases hparts with
      | cls _ hf he =>
        refine Exists.intro (at_ l i).a (And.intro (cellB hb8 rfl) ?_)
        refine call_ (WU1 base g v8 _ 2 (at_ l i).a w8 k8.wr Pool.w2 hf (by omega) (hbase k8)) ?_
        rintro e w11 ⟨rfl, v11, j11⟩
        refine ⟨_, rfl, ?_⟩
        exact ⟨n - (i + 1), i + 1, by omega, ⟨rfl, rfl, rfl, rfl, inc, trivial⟩, goal w11 v11 (close _ _ _ (k8.then j11) he)⟩
      | utf t => omega
      | int t => omega
      | long t => omega
      | two t => exact absurd h7 t.2.2.2
    replace h7 : ¬ (at_ l i).tag = 7 := h7
    cases hparts with
    | two _ hf hg he =>
      refine Exists.intro (at_ l i).a (And.intro (cellB hb8 rfl) ?_)
      refine Exists.intro (at_ l i).b (And.intro (cellB hb8 rfl) ?_)
      refine call_ (WU2 base g v8 _ 2 (at_ l i).a (at_ l i).b w8 k8.wr Pool.w2 hf hg (by omega) (hbase k8)) ?_
      rintro e w11 ⟨rfl, v11, j11⟩
      refine ⟨_, rfl, ?_⟩
      exact ⟨n - (i + 1), i + 1, by omega, ⟨rfl, rfl, rfl, rfl, inc, trivial⟩, goal w11 v11 (close _ _ _ (k8.then j11) he)⟩
    | utf t => omega
    | int t => omega
    | long t => omega
    | cls t => omega
  · replace hge : ¬ (i : Int) < n := hge
    refine ⟨rfl, vl, ?_⟩
    have : i = l.length := by omega
    subst this
    rw [List.take_length, hlen] at kl
    show Wk w base g v wl vl (bs ++ (enc 2 (l.length : Int) ++ ents (l.drop 1)))
    rw [ents_all hO.1]
    exact kl
end Go.Proofs.Ytbmlfbcanjobfaa.Pool

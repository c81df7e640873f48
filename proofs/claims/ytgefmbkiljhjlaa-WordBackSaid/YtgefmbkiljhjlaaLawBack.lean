/- The statement WordBack, walked. -/
import Derived.Test.YtgefmbkiljhjlaaLawSigns
namespace Go.Proofs.Ytgefmbkiljhjlaa.Word
open Go Go.Proofs.Ytgefmbkiljhjlaa Go.Proofs.Ytgefmbkiljhjlaa.Eng Go.Proofs
set_option maxRecDepth 10000

/-- The bytes that number i was written as. -/
theorem flat_cut (k : Nat) (zs : List Int) (i : Nat) (h : i < zs.length) : ((zs.flatMap (enc k)).drop (k * i)).take k = enc k zs[i] := by
  have e : zs.flatMap (enc k) = (zs.take i).flatMap (enc k) ++ (enc k zs[i] ++ (zs.drop (i + 1)).flatMap (enc k)) := by
    conv => lhs; rw [← List.take_append_drop i zs, List.drop_eq_getElem_cons h]
    rw [List.flatMap_append, List.flatMap_cons]
  have hl : ((zs.take i).flatMap (enc k)).length = k * i := by rw [flat_length, List.length_take, Nat.min_eq_left (by omega)]
  rw [e, List.drop_left' hl, List.take_left' (enc_length _ _)]
theorem good_fits {k : Int} {sign : Bool} {zs : List Int} (h : good k sign zs = true) {i : Nat} (hi : i < zs.length) : wide k = true ∧ fits k zs[i] sign = true := by
  unfold good at h
  simp only [Bool.and_eq_true, Bool.not_eq_true', List.any_eq_false, Bool.not_eq_false] at h
  refine ⟨h.1, ?_⟩
  have := h.2 zs[i] (List.getElem_mem hi)
  simpa using this
/-- Each number that was written is read. -/
theorem get_back {k : Nat} {sign : Bool} {zs : List Int} (h : good k sign zs = true) (hb : ∀ z ∈ zs, -9223372036854775808 ≤ z ∧ z ≤ 9223372036854775807) {i : Nat} (hi : i < zs.length) :
    get sign (zs.flatMap (enc k)) (k * i) k = (zs[i], 0, k * (i + 1)) := by
  obtain ⟨hw, hf⟩ := good_fits h hi
  obtain ⟨lo, up⟩ := hb zs[i] (List.getElem_mem hi)
  have hlen : ((zs.flatMap (enc k)).length : Int) - ((k * i : Nat) : Int) ≥ (k : Int) := by
    rw [flat_length]
    have : k * (i + 1) ≤ k * zs.length := Nat.mul_le_mul_left _ hi
    rw [Nat.mul_succ] at this
    omega
  unfold get
  rw [if_pos hw, if_neg (by omega), Int.toNat_natCast, flat_cut k zs i hi, Nat.mul_succ]
  cases sign with
  | true =>
    rw [if_pos rfl, back_s k zs[i] hw hf lo up]
  | false =>
    obtain ⟨e, l⟩ := back_u k zs[i] hw hf up
    rw [if_neg (by simp), if_pos l, e]

theorem thenF_ {next : Fr → World → Prop} {Q : Exit → Fr → World → Prop} {fr : Fr} {w : World} (h : next fr w) : thenF next Q .normal fr w := h
theorem skip_ {P : Program} {T : Tab} {F : FuncId → Bool} {n : Nat} {Q : Exit → Fr → World → Prop} {fr : Fr} {w : World} (h : Q .normal fr w) : den P T F n .skip Q fr w := h
theorem seq_ {P : Program} {T : Tab} {F : FuncId → Bool} {n : Nat} {a b : Code} {Q : Exit → Fr → World → Prop} {fr : Fr} {w : World} (h : den P T F n a (thenF (fun fr w => den P T F n b Q fr w) Q) fr w) : den P T F n (.seq a b) Q fr w := h
theorem block_ {P : Program} {T : Tab} {F : FuncId → Bool} {n i : Nat} {c : Code} {Q : Exit → Fr → World → Prop} {fr : Fr} {w : World} (h : den P T F n c (blockF i Q) fr w) : den P T F n (.block i c) Q fr w := h
theorem region_ {P : Program} {T : Tab} {F : FuncId → Bool} {n i : Nat} {ops : Array Oper} {Q : Exit → Fr → World → Prop} {fr : Fr} {w : World} (h : evOps P T F ops (Q .normal) ops.toList fr w) : den P T F n (.region i ops false) Q fr w := h
theorem ops_cut {σ : Type} {P : Program} {T : Tab} {F : FuncId → Bool} {ops : Array Oper} {Q : Fr → World → Prop} {l : List Oper} {fr : Fr} {w : World} (L : σ → List (Nat × Value)) (J : σ → World → Prop)
    (h2 : ∀ s w fr0, J s w → Q (upds fr0 (L s)) w) (h1 : ∀ K : Fr → World → Prop, (∀ s fr' w', Slots fr' (L s) → J s w' → K fr' w') → evOps P T F ops K l fr w) : evOps P T F ops Q l fr w :=
  h1 Q fun s fr' w' hs hj => by rw [upds_self hs]; exact h2 s w' fr' hj

theorem WordBack_ok (k : Int) (C : Option Addr) (q qc : Nat) (zs : List Int) (sign : Bool) (w : World) (hq : q = zs.length) (hz : Row w C (ivs zs)) (hb : ∀ z ∈ zs, -9223372036854775808 ≤ z ∧ z ≤ 9223372036854775807) (hm : 8 * zs.length ≤ 140737488355328) :
    Calls Try.prog 4 #[.int .i64 k, .slice C q qc, .bool sign] w fun e w' => e = .returned (.bool true) ∧ New w w' := by
  refine enter ok Try.func4 rfl rfl rfl ?_
  refine call_ (works_ok w) ?_
  rintro e w0 ⟨b0, rfl, rfl, n0⟩
  refine ⟨_, rfl, ?_⟩
  refine call_ (Make_ok w0) ?_
  rintro e w1 ⟨rfl, wr1, n1, z1⟩
  refine ⟨_, rfl, ?_⟩
  have n01 := n0.trans n1
  have hzC : ∀ a, C = some a → zs ≠ [] → ¬ WS w0.heap.size (.slice none 0 0) a.block := by
    rintro a ha hne (e | e)
    · have := (hz.new n0).lt (by simpa [ivs] using hne) ha
      omega
    · simp [Value.ownBlock] at e
  refine ops_cut (σ := Unit) (fun _ => [(0, .int .i64 k), (1, .slice C q qc), (2, .bool sign), (7, .pointer (some ⟨w0.heap.size, 0, none⟩))]) (fun _ w' => w' = w1) ?_ (fun K hK => hK () _ _ ⟨rfl, rfl, rfl, rfl, trivial⟩ rfl)
  rintro s w1 fr0 rfl
  refine thenF_ ?_
  refine seq_assign ?_
  refine seq_cut (σ := Int) (fun er => [(0, .int .i64 k), (1, .slice C q qc), (2, .bool sign), (7, .pointer (some ⟨w0.heap.size, 0, none⟩)), (8, .int .i64 er)])
    (fun er w2 => er = allErr k sign zs ∧ ∃ v, Wr w2 w0.heap.size w0.heap.size v (allBs [] k sign zs) ∧ New w w2 ∧ w1.heap.size ≤ w2.heap.size) ?_ ?_
  rotate_left
  · intro K hK
    have fin : ∀ {w2 : World} {v' : Value}, Wr w2 w0.heap.size w0.heap.size v' (allBs [] k sign zs) → Mod (WS w0.heap.size (.slice none 0 0)) w1 w2 → allErr k sign zs = allErr k sign zs ∧ ∃ v, Wr w2 w0.heap.size w0.heap.size v (allBs [] k sign zs) ∧ New w w2 ∧ w1.heap.size ≤ w2.heap.size := by
      intro w2 v' h2 m2
      refine ⟨rfl, v', h2, Mod.trans n01 m2 ?_, m2.size⟩
      rintro i hi (e | e)
      · have := n0.size
        omega
      · simp [Value.ownBlock] at e
    cases sign with
    | true =>
      refine call_ (WS_ok w0.heap.size w0.heap.size (.slice none 0 0) [] k C q qc zs w1 wr1 (hz.new n01) hq hzC (by simpa using hm) n1.size) ?_
      rintro e w2 ⟨rfl, v', h2, m2, _⟩
      exact ⟨_, rfl, hK _ _ _ ⟨rfl, rfl, rfl, rfl, rfl, trivial⟩ (fin h2 m2)⟩
    | false =>
      refine call_ (WU_ok w0.heap.size w0.heap.size (.slice none 0 0) [] k C q qc zs w1 wr1 (hz.new n01) hq hzC (by simpa using hm) n1.size) ?_
      rintro e w2 ⟨rfl, v', h2, m2, _⟩
      exact ⟨_, rfl, hK _ _ _ ⟨rfl, rfl, rfl, rfl, rfl, trivial⟩ (fin h2 m2)⟩
  rintro er w2 fr0 ⟨rfl, v, wr2, n2, s2⟩
  by_cases hg : good k sign zs = true
  rotate_left
  · have e1 : allErr k sign zs = 2 := by unfold allErr; rw [if_neg hg]
    have e2 : allBs [] k sign zs = [] := by unfold allBs; rw [if_neg hg]
    rw [e1]
    rw [e2] at wr2
    refine call_ (Len_ok _ _ v [] w2 wr2) ?_
    rintro e w' ⟨rfl, rfl⟩
    exact ⟨_, rfl, rfl, n2⟩
  have e1 : allErr k sign zs = 0 := by unfold allErr; rw [if_pos hg]
  have hwk : wide k = true := by
    unfold good at hg
    simp only [Bool.and_eq_true] at hg
    exact hg.1
  have hkc := wide_cases hwk
  obtain ⟨n, rfl⟩ : ∃ n : Nat, k = n := ⟨k.toNat, by omega⟩
  have e2 : allBs [] n sign zs = zs.flatMap (enc n) := by unfold allBs; rw [if_pos hg, List.nil_append, Int.toNat_natCast]
  rw [e1]
  rw [e2] at wr2
  have hlen := flat_length n zs
  have hn8 : n * zs.length ≤ 8 * zs.length := Nat.mul_le_mul_right _ (by omega)
  refine call_ (All_ok _ _ v _ w2 wr2 (by omega)) ?_
  rintro e w3 ⟨u, rfl, own3, n3⟩
  obtain ⟨A3, c3, rfl, hc3, ht3, row3, hA3⟩ := own_slice own3
  refine ⟨_, rfl, ?_⟩
  refine call_ (Read_ok A3 c3 (zs.flatMap (enc n)) w3 row3 hc3 ht3 (fun a ha => (hA3 a ha).2.1)) ?_
  rintro e w4 ⟨rfl, rd4, n4, z4⟩
  refine ⟨_, rfl, ?_⟩
  have n24 := (n2.trans n3).trans n4
  have hvl := fun b hb => (wr2.own.lt b hb).2
  have hwl := wr2.lt
  have hs3 := n3.size
  refine den_loop (σ := Nat) (fun i => [(0, .int .i64 n), (1, .slice C q qc), (2, .bool sign), (7, .pointer (some ⟨w0.heap.size, 0, none⟩)), (9, .pointer (some ⟨w3.heap.size, 0, none⟩)), (10, .int .i64 i)])
    (fun m i wl => i ≤ q ∧ m = q - i ∧ Rd wl w3.heap.size A3 c3 (zs.flatMap (enc n)) (n * i) ∧ Mod (fun b => b = w3.heap.size) w4 wl) q 0 ⟨rfl, rfl, rfl, rfl, rfl, rfl, trivial⟩ ⟨Nat.zero_le _, rfl, rd4, Mod.refl _ _⟩ ?_
  rintro m i wl fr1 ⟨hi, rfl, rd, ml⟩
  have nl : New w wl := Mod.trans n24 ml (by intro b hb e; have := n2.size; omega)
  refine if_p (fun hlt => ?_) (fun hge => ?_)
  · have hi' : i < zs.length := by omega
    have gb := get_back hg hb hi'
    refine skip_ (thenF_ (seq_ (block_ (seq_ (region_ ?_)))))
    refine ops_cut (σ := Unit) (fun _ => [(0, .int .i64 n), (1, .slice C q qc), (2, .bool sign), (7, .pointer (some ⟨w0.heap.size, 0, none⟩)), (9, .pointer (some ⟨w3.heap.size, 0, none⟩)), (10, .int .i64 i)]) (fun _ w' => w' = wl) ?_ (fun K hK => hK () _ _ ⟨rfl, rfl, rfl, rfl, rfl, rfl, trivial⟩ rfl)
    rintro s wl fr3 rfl
    refine thenF_ ?_
    refine seq_cut (σ := Unit) (fun _ => [(0, .int .i64 n), (1, .slice C q qc), (2, .bool sign), (7, .pointer (some ⟨w0.heap.size, 0, none⟩)), (9, .pointer (some ⟨w3.heap.size, 0, none⟩)), (10, .int .i64 i), (11, .int .i64 zs[i]), (12, .int .i64 0)])
      (fun _ w5 => Rd w5 w3.heap.size A3 c3 (zs.flatMap (enc n)) (n * (i + 1)) ∧ Mod (fun b => b = w3.heap.size) w4 w5) ?_ ?_
    rotate_left
    · intro K hK
      cases sign with
      | true =>
        have hS := S_ok w3.heap.size A3 c3 _ (n * i) n wl rd
        rw [gb] at hS
        refine call_ hS ?_
        rintro e w5 ⟨rfl, rd5, m5⟩
        exact ⟨_, rfl, hK () _ _ ⟨rfl, rfl, rfl, rfl, rfl, rfl, rfl, rfl, trivial⟩ ⟨rd5, Mod.trans ml m5 fun _ _ h => h⟩⟩
      | false =>
        have hS := U_ok w3.heap.size A3 c3 _ (n * i) n wl rd
        rw [gb] at hS
        refine call_ hS ?_
        rintro e w5 ⟨rfl, rd5, m5⟩
        exact ⟨_, rfl, hK () _ _ ⟨rfl, rfl, rfl, rfl, rfl, rfl, rfl, rfl, trivial⟩ ⟨rd5, Mod.trans ml m5 fun _ _ h => h⟩⟩
    rintro s w5 fr2 ⟨rd5, m5⟩
    have n5 : New w w5 := Mod.trans n24 m5 (by intro b hb e; have := n2.size; omega)
    obtain ⟨a, rfl, hc⟩ := (hz.new n5).at_ i (by simp [ivs]; omega)
    have hzv : (ivs zs)[i]'(by simp [ivs]; omega) = .int .i64 zs[i] := by simp [ivs]
    rw [hzv] at hc
    refine And.intro (by omega) (And.intro hlt (some_at rfl (Exists.intro _ (And.intro (by rw [Nat.mul_one, Int.toNat_natCast]; exact hc) ?_))))
    refine if_no (by simp) ?_
    refine ⟨q - (i + 1), i + 1, by omega, ⟨rfl, rfl, rfl, rfl, rfl, ?_, trivial⟩, by omega, rfl, rd5, m5⟩
    show Value.int .i64 (IntKind.i64.wrap _) = _
    rw [wrap_i64 (by omega) (by omega)]
    rfl
  · have : i = q := by omega
    subst this
    refine call_ (Left_ok _ _ _ _ _ wl rd) ?_
    rintro e w6 ⟨rfl, n6⟩
    refine ⟨_, rfl, ?_⟩
    have hz0 : ((zs.flatMap (enc n)).length : Int) - ((n * i : Nat) : Int) = 0 := by rw [hlen, hq]; omega
    refine if_yes (decide_eq_true hz0) ?_
    have wr6 : Wr w6 w0.heap.size w0.heap.size v (zs.flatMap (enc n)) := (((wr2.new n3).new n4).mod ml (by omega) (by intro b hb e; have := hvl b hb; omega)).new n6
    refine call_ (Len_ok _ _ v _ w6 wr6) ?_
    rintro e w7 ⟨rfl, rfl⟩
    refine ⟨_, rfl, ?_, nl.trans n6⟩
    show Ending.returned (.bool (decide (_ = IntKind.i64.wrap _))) = _
    have hni : (n : Int) * (i : Int) = ((n * i : Nat) : Int) := by simp
    have hle : n * i ≤ 8 * zs.length := by rw [hq]; exact hn8
    rw [hni, wrap_i64 (by omega) (by omega), hlen, ← hq, decide_eq_true rfl]
end Go.Proofs.Ytgefmbkiljhjlaa.Word

/- The package pool and its reference, walked: what is right. -/
import Derived.Test.YtbmlfbcanjobfaaPWalk2
namespace Go.Proofs.Ytbmlfbcanjobfaa.Pool
open Go Go.Proofs.Ytbmlfbcanjobfaa Go.Proofs.Ytbmlfbcanjobfaa.Eng Go.Proofs
set_option maxRecDepth 10000

def chk (l : List Ent) : Int := if okB l = true then 0 else 70
theorem chk_good {l : List Ent} (h : OkPool l) : chk l = 0 := if_pos ((okB_iff l).2 h)
theorem chk_bad {l : List Ent} (h : ¬ OkPool l) : chk l = 70 := if_neg fun o => h ((okB_iff l).1 o)
theorem Check_ok (A : Option Addr) (n c : Nat) (l : List Ent) (w : World) (h : Pl w A n l) :
    Calls Try.prog 33 #[.slice A n c] w fun e w' => e = .returned (.int .i64 (chk l)) ∧ New w w' := by
  refine enter ok Try.func33 rfl rfl rfl ?_
  have hlen := h.len
  have htop := h.top
  refine if_p (fun h0 => ?_) (fun h0 => ?_)
  · replace h0 : (n : Int) = 0 := h0
    rw [chk_bad fun o => by have := o.1.pos; omega]
    exact ⟨rfl, New.refl _⟩
  replace h0 : ¬ (n : Int) = 0 := h0
  refine if_p (fun h1 => ?_) (fun h1 => ?_)
  · replace h1 : (1024 : Int) < n := h1
    rw [chk_bad fun o => by have := o.2; omega]
    exact ⟨rfl, New.refl _⟩
  replace h1 : ¬ (1024 : Int) < n := h1
  obtain ⟨a, rfl, _, hc⟩ := h.at_ (i := 0) (by omega)
  refine And.intro (by decide) (And.intro (by omega) ?_)
  refine loadN_row (vs := entC (at_ l (0 : Nat))) hc rfl ?_
  refine ent_neq (q := e0) rfl rfl rfl ?_
  refine if_n (fun hne => ?_) (fun he => ?_)
  · rw [chk_bad fun o => hne o.1.head]
    exact ⟨rfl, New.refl _⟩
  replace he : at_ l 0 = e0 := he
  refine den_loop (σ := Nat) (fun i => [(3, .slice (some a) n c), (4, .int .i64 i)])
    (fun m i wl => 1 ≤ i ∧ i ≤ n ∧ m = n - i ∧ (∀ j, 1 ≤ j → j < i → (at_ l (j - 1 : Nat)).tag = 5 ∨ fits l j = true) ∧ New w wl) (n - 1) 1 ⟨rfl, rfl, trivial⟩ ⟨by omega, by omega, rfl, fun j h1 h2 => by omega, New.refl _⟩ ?_
  rintro m i wl fr0 ⟨hi1, hin, rfl, hall, nl⟩
  refine if_p (fun hlt => ?_) (fun hge => ?_)
  rotate_left
  · replace hge : ¬ (i : Int) < n := hge
    rw [chk_good ⟨⟨by omega, he, fun j h1 h2 => hall j h1 (by omega)⟩, by omega⟩]
    exact ⟨rfl, nl⟩
  replace hlt : (i : Int) < n := hlt
  have e1 : IntKind.i64.wrap ((i : Int) - 1) = ((i - 1 : Nat) : Int) := by rw [wrap_i64 (by omega) (by omega)]; omega
  obtain ⟨a', ha', _, hc1⟩ := h.at_ (i := i - 1) (by omega)
  cases ha'
  refine And.intro (by rw [e1]; omega) (And.intro (by rw [e1]; omega) ?_)
  refine Exists.intro (at_ l (i - 1 : Nat)).tag (And.intro (by rw [e1, Int.toNat_natCast]; exact nl.cell (hc1 0 _ rfl)) ?_)
  have step : Value.int .i64 (IntKind.i64.wrap ((i : Int) + 1)) = .int .i64 ((i + 1 : Nat) : Int) := by
    rw [wrap_i64 (by omega) (by omega)]
    rfl
  refine if_p (fun h5 => ?_) (fun h5 => ?_)
  · refine ⟨n - (i + 1), i + 1, by omega, ⟨rfl, step, trivial⟩, by omega, by omega, rfl, fun j hj1 hj2 => ?_, nl⟩
    rcases Nat.lt_or_ge j i with h' | h'
    · exact hall j hj1 h'
    · have : j = i := by omega
      subst this
      exact .inl h5
  refine call_ (fits_ok (some a) n c l i wl (h.new nl) (by omega)) ?_
  rintro e w2 ⟨rfl, n2⟩
  refine ⟨_, rfl, ?_⟩
  have k2 := nl.trans n2
  cases hf : fits l i with
  | false =>
    rw [chk_bad fun o => by
      rcases o.1.each i hi1 (by omega) with h' | h'
      · exact h5 h'
      · rw [hf] at h'; cases h']
    exact ⟨rfl, k2⟩
  | true =>
    refine ⟨n - (i + 1), i + 1, by omega, ⟨rfl, step, trivial⟩, by omega, by omega, rfl, fun j hj1 hj2 => ?_, k2⟩
    rcases Nat.lt_or_ge j i with h' | h'
    · exact hall j hj1 h'
    · have : j = i := by omega
      subst this
      exact .inr hf
theorem text_ok (s : List UInt8) (w : World) (hs : s.length ≤ 9223372036854775807) :
    Calls Try.prog 62 #[strV s] w fun e w' => e = .returned (.bool (rightT s)) ∧ w' = w := by
  refine enter ok Try.func62 rfl rfl rfl ?_
  refine den_loop (σ := Nat) (fun i => [(0, strV s), (3, .int .i64 i)]) (fun m i wl => i ≤ s.length ∧ m = s.length - i ∧ (∀ j (h : j < s.length), j < i → okB1 s[j] = true) ∧ wl = w) s.length 0 ⟨rfl, rfl, trivial⟩ ⟨Nat.zero_le _, rfl, fun j _ h => absurd h (Nat.not_lt_zero _), rfl⟩ ?_
  rintro m i wl fr0 ⟨hi, rfl, hall, rfl⟩
  refine if_p (fun hlt => ?_) (fun hge => ?_)
  · replace hlt : (i : Int) < (ByteArray.mk s.toArray).size := hlt
    have hl : i < s.length := by rw [size_str] at hlt; omega
    have hx : (i : Int).toNat < (ByteArray.mk s.toArray).size := by rw [size_str, Int.toNat_natCast]; exact hl
    have hg : (ByteArray.mk s.toArray)[(i : Int).toNat]'hx = s[i] := by
      simp only [Int.toNat_natCast]
      exact get_str s i _ hl
    have bad : okB1 s[i] = false → rightT s = false := fun hb => by
      have : s.all okB1 = false := List.all_eq_false.2 ⟨_, List.getElem_mem hl, by rw [hb]; decide⟩
      show (decide (s.length ≤ 255) && s.all okB1) = false
      rw [this, Bool.and_false]
    refine And.intro (by omega) (Exists.intro hx ?_)
    rw [hg]
    refine if_p (fun h33 => ?_) (fun h33 => ?_)
    · rw [bad (by unfold okB1; rw [decide_eq_false (p := 33 ≤ s[i].toNat) (by omega), Bool.false_and])]
      exact ⟨rfl, rfl⟩
    refine And.intro (by omega) (Exists.intro hx ?_)
    rw [hg]
    refine if_p (fun h126 => ?_) (fun h126 => ?_)
    · rw [bad (by unfold okB1; rw [decide_eq_false (p := s[i].toNat ≤ 126) (by omega), Bool.and_false])]
      exact ⟨rfl, rfl⟩
    refine ⟨s.length - (i + 1), i + 1, by omega, ⟨rfl, ?_, trivial⟩, by omega, rfl, fun j hj hjp => ?_, rfl⟩
    · show Value.int .i64 (IntKind.i64.wrap _) = _
      rw [wrap_i64 (by omega) (by omega)]
      rfl
    · rcases Nat.lt_or_ge j i with h' | h'
      · exact hall j hj h'
      · have : j = i := by omega
        subst this
        unfold okB1
        rw [decide_eq_true (p := 33 ≤ s[j].toNat) (by omega), decide_eq_true (p := s[j].toNat ≤ 126) (by omega)]
        rfl
  · replace hge : ¬ (i : Int) < (ByteArray.mk s.toArray).size := hge
    rw [size_str] at hge
    refine ⟨?_, rfl⟩
    have : s.all okB1 = true := List.all_eq_true.2 fun x hx => by
      obtain ⟨j, hj, rfl⟩ := List.getElem_of_mem hx
      exact hall j hj (by omega)
    show Ending.returned (.bool (decide (((ByteArray.mk s.toArray).size : Int) ≤ 255))) = .returned (.bool (decide (s.length ≤ 255) && s.all okB1))
    rw [this, Bool.and_true, size_str]
    congr 2
    by_cases h : s.length ≤ 255
    · rw [decide_eq_true h, decide_eq_true (by omega)]
    · rw [decide_eq_false h, decide_eq_false (by omega)]
end Go.Proofs.Ytbmlfbcanjobfaa.Pool

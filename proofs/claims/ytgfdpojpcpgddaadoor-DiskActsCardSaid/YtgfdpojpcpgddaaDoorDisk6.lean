/- The package disk, walked: a crash, a fetch, a dump. -/
import Derived.Test.YtgfdpojpcpgddaaDoorDisk5
import Derived.Test.YtgfdpojpcpgddaaDoorDShelf
namespace Go.Proofs.YtgfdpojpcpgddaaDoor.Disk
open Go Go.Proofs.YtgfdpojpcpgddaaDoor Go.Proofs.YtgfdpojpcpgddaaDoor.Eng Go.Proofs
set_option maxRecDepth 10000

/-- How many values of a cache are kept. -/
def kOf (kept : List Int) (j n : Nat) : Nat := if j < kept.length then ((kept.getD j 0 % 18446744073709551616) % ((n : Int) + 1)).toNat else 0
def crashTo (cs : List Cl) (kept : List Int) (l : List Nat) : Nat → List Cl
  | 0 => cs
  | j + 1 => match (crashTo cs kept l j)[l.getD j 0]? with
    | some d => (crashTo cs kept l j).set (l.getD j 0) (d.keep (kOf kept j d.ws.length))
    | none => crashTo cs kept l j
theorem crashTo_len (cs : List Cl) (kept : List Int) (l : List Nat) : ∀ j, (crashTo cs kept l j).length = cs.length
  | 0 => rfl
  | j + 1 => by
    unfold crashTo
    split
    · rw [List.length_set, crashTo_len cs kept l j]
    · exact crashTo_len cs kept l j
def crashDS (s : DS) (kept : List Int) : DS := { s with cs := crashTo s.cs kept (cached s.cs) (cached s.cs).length, trip := -1, gone := false }
theorem cached_lt (cs : List Cl) : ∀ i ∈ cached cs, i < cs.length := by
  intro i hi
  have := (List.mem_filter.1 hi).1
  exact List.mem_range.1 this
theorem kOf_le (kept : List Int) (j n : Nat) : kOf kept j n ≤ n := by
  unfold kOf
  split
  · have h1 : 0 ≤ (kept.getD j 0 % 18446744073709551616) % ((n : Int) + 1) := Int.emod_nonneg _ (by omega)
    have h2 : (kept.getD j 0 % 18446744073709551616) % ((n : Int) + 1) < (n : Int) + 1 := Int.emod_lt_of_pos _ (by omega)
    omega
  · omega
theorem crashTo_ws (cs : List Cl) (kept : List Int) (l : List Nat) (N : Nat) (h : ∀ c ∈ cs, c.ws.length ≤ N) : ∀ j, ∀ c ∈ crashTo cs kept l j, c.ws.length ≤ N
  | 0 => h
  | j + 1 => by
    unfold crashTo
    split
    · intro c hc
      rcases List.mem_or_eq_of_mem_set hc with hc | hc
      · exact crashTo_ws cs kept l N h j c hc
      · rw [hc]; exact Nat.zero_le _
    · exact crashTo_ws cs kept l N h j
theorem wrap_u64' (n : Int) : IntKind.u64.wrap n = n % 18446744073709551616 := by simp [IntKind.wrap, IntKind.bits, IntKind.signed]
theorem Crash_ok (base g q : Nat) (vs : Nat → Value) (s : DS) (K : Option Addr) (kn kc : Nat) (kept : List Int) (w : World) (h : Dk w base g q vs s) (hn0 : 0 < s.cs.length) (hn4 : s.cs.length ≤ 4096) (hl : ∀ c ∈ s.cs, c.ws.length ≤ 100000) (hk : Row w K (ivs kept)) (hkn : kn = kept.length)
    (hKo : kept ≠ [] → ∀ a, K = some a → a.block ≠ q) :
    Calls Tryd.prog 15 #[.pointer (some ⟨g, 0, none⟩), .slice K kn kc] w fun e w' => e = .returned (.int .i64 0) ∧
      ∃ vs', Dk w' base g q vs' (crashDS s kept) ∧ Mod (DSet g q s.cs.length vs) w w' ∧ ∀ b, DSet g q s.cs.length vs' b → DSet g q s.cs.length vs b := by
  refine enter ok Tryd.func15 rfl rfl rfl ?_
  refine call_ (Count_ok base g q vs s w h) ?_
  rintro e w1 ⟨rfl, rfl⟩
  refine ⟨_, rfl, ?_⟩
  refine if_p (fun h0 => absurd h0 (by omega)) (fun _ => ?_)
  refine call_ (Cached_ok base g q vs s w1 h hn4) ?_
  rintro e w2 ⟨v2, rfl, own2, n2⟩
  obtain ⟨A2, c2, rfl, _, _, row2, hA2⟩ := own_slice own2
  refine ⟨_, rfl, ?_⟩
  have h2 := h.new n2
  have hql := (h.lt q (.inr (.inl rfl))).2
  have hcl : (cached s.cs).length ≤ 4096 := Nat.le_trans (waitTo_le _ _) hn4
  refine den_loop (σ := Nat × (Nat → Value)) (fun t => [(0, .pointer (some ⟨g, 0, none⟩)), (1, .slice K kn kc), (13, .slice A2 (cached s.cs).length c2), (14, .int .i64 (cached s.cs).length), (15, .int .i64 t.1)])
    (fun m t wl => t.1 ≤ (cached s.cs).length ∧ m = (cached s.cs).length - t.1 ∧ Dk wl base g q t.2 { s with cs := crashTo s.cs kept (cached s.cs) t.1 } ∧ Mod (fun b => b = q) w2 wl ∧ ∀ b, DSet g q s.cs.length t.2 b → DSet g q s.cs.length vs b) (cached s.cs).length (0, vs) ⟨rfl, rfl, rfl, rfl, rfl, trivial⟩ ⟨Nat.zero_le _, rfl, h2, Mod.refl _ _, fun b hb => hb⟩ ?_
  rintro m ⟨j, vsj⟩ wl fr1 ⟨hj, rfl, hd, hm, hsub⟩
  dsimp only at hj hd hm hsub
  have hlen := crashTo_len s.cs kept (cached s.cs) j
  refine if_p (fun hlt => ?_) (fun hge => ?_)
  · replace hlt : (j : Int) < (cached s.cs).length := hlt
    have hjl : j < (cached s.cs).length := by omega
    have hat := cached_lt s.cs _ (List.getElem_mem hjl)
    have hgd : (cached s.cs).getD j 0 = (cached s.cs)[j] := by rw [List.getD_eq_getElem?_getD, List.getElem?_eq_getElem hjl]; rfl
    generalize hatv : (cached s.cs)[j] = at_ at hat hgd
    have hrl : Row wl A2 (nvs (cached s.cs)) := row2.mod hm (fun a ha e => by have := (hA2 a ha).1; omega)
    obtain ⟨a, rfl, hc⟩ := hrl.at_ j (by simp [nvs, ivs]; exact hjl)
    have hzv : (nvs (cached s.cs))[j]'(by simp [nvs, ivs]; exact hjl) = .int .i64 (at_ : Int) := by simp [nvs, ivs, hatv]
    rw [hzv] at hc
    have hcell := List.getElem?_eq_getElem (l := crashTo s.cs kept (cached s.cs) j) (i := at_) (by omega)
    generalize hcv : (crashTo s.cs kept (cached s.cs) j)[at_]'(by omega) = cc at hcell
    have hwl : cc.ws.length ≤ 100000 := crashTo_ws s.cs kept (cached s.cs) 100000 hl j cc (List.mem_of_getElem? hcell)
    have hca := hd.each at_ _ hcell
    obtain ⟨A3, n3, hv, hcap, htop, _, _⟩ := own_slice hca.own
    have hwait := hca.wait
    rw [hv] at hwait
    have ex : (⟨q, 0, none⟩ : Addr).add ((at_ : Int).toNat * 257) = ⟨q, at_ * 257, none⟩ := by rw [Int.toNat_natCast, ad0]
    have hc0 := hd.c0
    simp only [hlen] at hc0
    refine And.intro (by omega) (And.intro hlt ?_)
    refine Exists.intro (at_ : Int) ?_
    refine And.intro (by rw [Nat.mul_one, Int.toNat_natCast]; exact hc) ?_
    have fin : ∀ x : Int, 0 ≤ x → x < 18446744073709551616 → (x % ((cc.ws.length : Int) + 1)).toNat = kOf kept j cc.ws.length →
        Calls Tryd.prog 41 #[.pointer (some ((⟨q, 0, none⟩ : Addr).add ((at_ : Int).toNat * 257))), .int .i64 (IntKind.i64.wrap (x.tmod (IntKind.u64.wrap (IntKind.i64.wrap ((cc.ws.length : Int) + 1)))))] wl fun e w' => e = .returned (.tuple #[]) ∧
          Dk w' base g q (fun i => if i = at_ then .slice none 0 0 else vsj i) { s with cs := crashTo s.cs kept (cached s.cs) (j + 1) } ∧ Mod (fun b => b = q) wl w' := by
      intro x hx0 hx1 hxk
      have e1 : IntKind.u64.wrap (IntKind.i64.wrap ((cc.ws.length : Int) + 1)) = (cc.ws.length : Int) + 1 := by
        rw [wrap_i64 (by omega) (by omega), wrap_u64']
        omega
      have h0 : 0 ≤ x % ((cc.ws.length : Int) + 1) := Int.emod_nonneg _ (by omega)
      have h1 : x % ((cc.ws.length : Int) + 1) < (cc.ws.length : Int) + 1 := Int.emod_lt_of_pos _ (by omega)
      have e2 : IntKind.i64.wrap (x.tmod (IntKind.u64.wrap (IntKind.i64.wrap ((cc.ws.length : Int) + 1)))) = x % ((cc.ws.length : Int) + 1) := by
        rw [e1, Int.tmod_eq_emod_of_nonneg hx0, wrap_i64 (by omega) (by omega)]
      rw [e2, ex]
      refine (keep_ok base g q at_ vsj { s with cs := crashTo s.cs kept (cached s.cs) j } cc (x % ((cc.ws.length : Int) + 1)) wl hd hcell h0 (by omega)).mono ?_
      rintro e w' ⟨rfl, hd', m'⟩
      refine ⟨rfl, ?_, m'⟩
      have es : crashTo s.cs kept (cached s.cs) (j + 1) = (crashTo s.cs kept (cached s.cs) j).set at_ (cc.keep (x % ((cc.ws.length : Int) + 1)).toNat) := by
        rw [hxk]
        show (match (crashTo s.cs kept (cached s.cs) j)[(cached s.cs).getD j 0]? with
          | some d => (crashTo s.cs kept (cached s.cs) j).set ((cached s.cs).getD j 0) (d.keep (kOf kept j d.ws.length))
          | none => crashTo s.cs kept (cached s.cs) j) = _
        rw [hgd, hcell]
      rw [es]
      exact hd'
    have close : ∀ w', Dk w' base g q (fun i => if i = at_ then .slice none 0 0 else vsj i) { s with cs := crashTo s.cs kept (cached s.cs) (j + 1) } → Mod (fun b => b = q) wl w' → (j + 1 ≤ (cached s.cs).length ∧ (cached s.cs).length - (j + 1) = (cached s.cs).length - (j + 1) ∧ Dk w' base g q (fun i => if i = at_ then .slice none 0 0 else vsj i) { s with cs := crashTo s.cs kept (cached s.cs) (j + 1) } ∧ Mod (fun b => b = q) w2 w' ∧ ∀ b, DSet g q s.cs.length (fun i => if i = at_ then .slice none 0 0 else vsj i) b → DSet g q s.cs.length vs b) := by
      intro w' hd' m'
      refine ⟨by omega, rfl, hd', Mod.trans hm m' fun _ _ h => h, fun b hb => hsub b ?_⟩
      rcases hb with hb | hb | ⟨i, hi, hb⟩
      · exact .inl hb
      · exact .inr (.inl hb)
      · dsimp only at hb
        split at hb
        · simp [Value.ownBlock] at hb
        · exact .inr (.inr ⟨i, hi, hb⟩)
    have hne0 : IntKind.u64.wrap (IntKind.i64.wrap ((cc.ws.length : Int) + 1)) ≠ 0 := by
      rw [wrap_i64 (by omega) (by omega), wrap_u64']
      omega
    refine if_p (fun hjk => ?_) (fun hjk => ?_)
    · have hjk' : j < kept.length := by omega
      have hkl : Row wl K (ivs kept) := by
        have hr1 := hk.new n2
        by_cases hke : kept = []
        · rw [hke] at hjk'
          exact absurd hjk' (Nat.not_lt_zero _)
        · exact hr1.mod hm (hKo hke)
      obtain ⟨ka, rfl, hkc⟩ := hkl.at_ j (by simp [ivs]; exact hjk')
      have hkv : (ivs kept)[j]'(by simp [ivs]; exact hjk') = .int .i64 kept[j] := by simp [ivs]
      rw [hkv] at hkc
      refine And.intro (by omega) (And.intro hjk ?_)
      refine Exists.intro kept[j] ?_
      refine And.intro (by rw [Nat.mul_one, Int.toNat_natCast]; exact hkc) ?_
      refine Exists.intro (some ⟨q, 0, none⟩) (Exists.intro s.cs.length (Exists.intro s.cs.length ?_))
      refine And.intro (by rw [ad0]; exact hc0) ?_
      refine And.intro (by omega) (And.intro (by omega) ?_)
      refine Exists.intro A3 (Exists.intro cc.ws.length (Exists.intro n3 ?_))
      refine And.intro (by rw [ex, add00, add00]; exact hwait) ?_
      refine And.intro hne0 ?_
      refine call_ (fin (IntKind.u64.wrap kept[j]) (by rw [wrap_u64']; exact Int.emod_nonneg _ (by decide)) (by rw [wrap_u64']; exact Int.emod_lt_of_pos _ (by decide)) (by rw [wrap_u64']; unfold kOf; rw [if_pos hjk', List.getD_eq_getElem?_getD, List.getElem?_eq_getElem hjk']; rfl)) ?_
      rintro e w5 ⟨rfl, hd5, m5⟩
      refine ⟨_, rfl, ?_⟩
      refine ⟨(cached s.cs).length - (j + 1), (j + 1, fun i => if i = at_ then .slice none 0 0 else vsj i), by omega, ⟨rfl, rfl, rfl, rfl, ?_, trivial⟩, close w5 hd5 m5⟩
      show Value.int .i64 (IntKind.i64.wrap _) = _
      rw [wrap_i64 (by omega) (by omega)]
      rfl
    · refine Exists.intro (some ⟨q, 0, none⟩) (Exists.intro s.cs.length (Exists.intro s.cs.length ?_))
      refine And.intro (by rw [ad0]; exact hc0) ?_
      refine And.intro (by omega) (And.intro (by omega) ?_)
      refine Exists.intro A3 (Exists.intro cc.ws.length (Exists.intro n3 ?_))
      refine And.intro (by rw [ex, add00, add00]; exact hwait) ?_
      refine And.intro hne0 ?_
      refine call_ (fin (0) (by decide) (by decide) (by unfold kOf; rw [if_neg (by omega), Int.zero_emod]; rfl)) ?_
      rintro e w5 ⟨rfl, hd5, m5⟩
      refine ⟨_, rfl, ?_⟩
      refine ⟨(cached s.cs).length - (j + 1), (j + 1, fun i => if i = at_ then .slice none 0 0 else vsj i), by omega, ⟨rfl, rfl, rfl, rfl, ?_, trivial⟩, close w5 hd5 m5⟩
      show Value.int .i64 (IntKind.i64.wrap _) = _
      rw [wrap_i64 (by omega) (by omega)]
      rfl
  · replace hge : ¬ (j : Int) < (cached s.cs).length := hge
    have : j = (cached s.cs).length := by omega
    subst this
    obtain ⟨k1, k2⟩ := hd.set 3 (.bool false) { s with cs := crashTo s.cs kept (cached s.cs) (cached s.cs).length, gone := false } rfl rfl
    obtain ⟨k3, k4⟩ := k1.set 2 (.int .i64 (-1)) { s with cs := crashTo s.cs kept (cached s.cs) (cached s.cs).length, gone := false, trip := -1 } rfl rfl
    refine And.intro ⟨_, by rw [ad0]; exact hd.c3⟩ (And.intro (by rw [ad0]; exact hd.fz 3) ?_)
    refine And.intro ⟨_, by rw [ad0, ad0]; exact k1.c2⟩ (And.intro (by rw [ad0, ad0]; exact k1.fz 2) ?_)
    refine ⟨rfl, vsj, ?_, ?_, hsub⟩
    · rw [ad0, ad0]
      exact k3
    · rw [ad0, ad0]
      refine Mod.trans (Mod.trans (Mod.trans n2.mod hm ?_) k2 ?_) k4 ?_
      · exact fun b _ e => .inr (.inl e)
      · exact fun b _ e => .inl e
      · exact fun b _ e => .inl e
end Go.Proofs.YtgfdpojpcpgddaaDoor.Disk

/- Few records that may be, walked. -/
import Derived.Test.YtpcoleeggeahlaaDoorFWorks
namespace Go.Proofs.YtpcoleeggeahlaaDoor.Frame
open Go Go.Proofs.YtpcoleeggeahlaaDoor Go.Proofs.YtpcoleeggeahlaaDoor.Eng Go.Proofs Go.Proofs.YtpcoleeggeahlaaDoor.Sum
set_option maxRecDepth 10000

theorem rise_snoc : ∀ (l : List Rec) (last : Int) (r : Rec), rise last l → ¬ r.e < lastE last l → rise last (l ++ [r])
  | [], _, _, _, h => ⟨h, trivial⟩
  | x :: l, _, r, hl, h => ⟨hl.1, rise_snoc l x.e r hl.2 h⟩
theorem lastE_snoc : ∀ (l : List Rec) (last : Int) (r : Rec), lastE last (l ++ [r]) = r.e
  | [], _, _ => rfl
  | x :: l, _, r => lastE_snoc l x.e r
theorem lastE_ge : ∀ (l : List Rec) (last : Int), rise last l → last ≤ lastE last l
  | [], _, _ => Int.le_refl _
  | x :: l, last, h => by
    have := lastE_ge l x.e h.2
    have := h.1
    show last ≤ lastE x.e l
    omega
theorem tot_snoc (l : List Rec) (r : Rec) : tot (l ++ [r]) = tot l + (r.d.length + 12) := by
  unfold tot
  rw [List.flatMap_append, List.length_append]
  simp [enc_len]
theorem tot_le : ∀ (l : List Rec), (∀ r ∈ l, okR r) → tot l ≤ l.length * 4108
  | [], _ => Nat.zero_le _
  | r :: l, h => by
    have := tot_le l fun x hx => h x (List.mem_cons_of_mem _ hx)
    have := (h r List.mem_cons_self).d
    rw [tot_cons, List.length_cons]
    omega
theorem small_ok (A : Option Addr) (n c : Nat) (l : List Rec) (w : World) (hn : n = l.length) (hr : Rows2 w A 2 (l.map recC)) (hm : n * 24 ≤ 140737488351232) :
    Calls Tryd.prog 17 #[.slice A n c] w fun e w' => ∃ b, e = .returned (.bool b) ∧ (b = true → (∀ r ∈ l, okR r) ∧ rise 0 l ∧ tot l ≤ 8000) ∧ New w w' := by
  refine enter ok Tryd.func17 rfl rfl rfl ?_
  refine den_loop (σ := Nat) (fun k => [(0, .slice A n c), (3, .int .i64 (tot (l.take k))), (4, .int .i64 (lastE 0 (l.take k))), (5, .int .i64 k)])
    (fun m k wl => k ≤ n ∧ m = n - k ∧ (∀ x ∈ l.take k, okR x) ∧ rise 0 (l.take k) ∧ New w wl) n 0 ⟨rfl, rfl, rfl, rfl, trivial⟩ ⟨Nat.zero_le _, rfl, by simp, trivial, New.refl _⟩ ?_
  rintro m k wl fr0 ⟨hk, rfl, hgood, hrise, nl⟩

  have htl := tot_le (l.take k) hgood
  rw [List.length_take, Nat.min_eq_left (by omega)] at htl
  refine if_p (fun hlt => ?_) (fun hge => ?_)
  rotate_left
  · replace hge : ¬ (k : Int) < n := hge
    have hkn : k = n := by omega
    subst hkn
    have hall : l.take k = l := by rw [hn]; exact List.take_length
    rw [hall] at hgood hrise
    refine ⟨_, rfl, fun hb => ⟨hgood, hrise, ?_⟩, nl⟩
    have := of_decide_eq_true hb
    rw [hall] at this
    omega
  replace hlt : (k : Int) < n := hlt
  have hkl : k < l.length := by omega
  have hstep : l.take (k + 1) = l.take k ++ [l[k]] := List.take_succ_eq_append_getElem hkl
  obtain ⟨a, rfl, hcells⟩ := hr.at_ k (by simpa using hkl)
  have hcell : ∀ j u, (recC l[k])[j]? = some u → wl.cell? ((a.add (k * 2)).add j) = some u := fun j u hu => nl.cell (hcells j u (by simpa using hu))
  generalize l[k] = r at hstep hcell
  have c0 := hcell 0 _ rfl
  have c1 := hcell 1 _ rfl
  have hlast := lastE_ge _ _ hrise
  have out : ∃ b, Ending.returned (.bool false) = .returned (.bool b) ∧ (b = true → (∀ r ∈ l, okR r) ∧ rise 0 l ∧ tot l ≤ 8000) ∧ New w wl := ⟨false, rfl, (fun hb => by cases hb), nl⟩
  refine And.intro (by omega) (And.intro hlt ?_)
  refine Exists.intro r.e ?_
  refine And.intro (by rw [Int.toNat_natCast]; exact c0) ?_
  refine if_p (fun _ => out) (fun h1 => ?_)
  replace h1 : ¬ r.e < lastE 0 (l.take k) := h1
  refine And.intro (by omega) (And.intro hlt ?_)
  refine Exists.intro r.e ?_
  refine And.intro (by rw [Int.toNat_natCast]; exact c0) ?_
  refine if_p (fun _ => out) (fun h2 => ?_)
  replace h2 : ¬ (4294967295 : Int) < r.e := h2
  refine And.intro (by omega) (And.intro hlt ?_)
  refine Exists.intro (⟨r.d.toArray⟩ : ByteArray) ?_
  refine And.intro (by rw [Int.toNat_natCast]; exact c1) ?_
  refine if_p (fun _ => out) (fun h3 => ?_)
  replace h3 : ¬ (4096 : Int) < (ByteArray.mk r.d.toArray).size := h3
  rw [size_str] at h3
  have hokr : okR r := ⟨by omega, by omega, by omega⟩
  refine And.intro (by omega) (And.intro hlt ?_)
  refine Exists.intro r.e ?_
  refine And.intro (by rw [Int.toNat_natCast]; exact c0) ?_
  refine And.intro (by omega) (And.intro hlt ?_)
  refine Exists.intro (⟨r.d.toArray⟩ : ByteArray) ?_
  refine And.intro (by rw [Int.toNat_natCast]; exact c1) ?_
  refine ⟨n - (k + 1), k + 1, by omega, ⟨rfl, ?_, ?_, ?_, trivial⟩, by omega, rfl, ?_, ?_, nl⟩
  · show Value.int .i64 (IntKind.i64.wrap ((tot (l.take k) : Int) + IntKind.i64.wrap ((ByteArray.mk r.d.toArray).size + 12))) = .int .i64 (tot (l.take (k + 1)))
    rw [size_str, wrap_i64 (n := (r.d.length : Int) + 12) (by omega) (by omega), wrap_i64 (by omega) (by omega), hstep, tot_snoc]
    congr 1
  · show Value.int .i64 r.e = .int .i64 (lastE 0 (l.take (k + 1)))
    rw [hstep, lastE_snoc]
  · show Value.int .i64 (IntKind.i64.wrap _) = _
    rw [wrap_i64 (by omega) (by omega)]
    rfl
  · intro x hx
    rw [hstep] at hx
    rcases List.mem_append.1 hx with hx | hx
    · exact hgood x hx
    · rw [List.mem_singleton.1 hx]; exact hokr
  · rw [hstep]
    exact rise_snoc _ _ _ hrise h1
end Go.Proofs.YtpcoleeggeahlaaDoor.Frame

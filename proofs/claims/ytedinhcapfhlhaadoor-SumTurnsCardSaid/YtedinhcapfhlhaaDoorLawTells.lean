/- The statement SumTells, walked. -/
import Derived.Test.YtedinhcapfhlhaaDoorSum4
namespace Go.Proofs.YtedinhcapfhlhaaDoor.Sum
open Go Go.Proofs.YtedinhcapfhlhaaDoor Go.Proofs.YtedinhcapfhlhaaDoor.Eng Go.Proofs
set_option maxRecDepth 10000

/-- 'if len(b) > N { b = b[:N] }' gives this length. -/
theorem cut_val {A : Option Addr} {n c N : Nat} (h : N < n) : Value.slice A ((N : Int).toNat) c = .slice A (min n N) c := by
  rw [Int.toNat_natCast, Nat.min_eq_right (by omega)]
theorem SumTells_ok (c : Crc.W) (A : Option Addr) (n cc : Nat) (bs : List UInt8) (w : World) (ht : tbl w) (hn : n = bs.length) (hr : Row w A (bvs bs)) (hcc : n ≤ cc) :
    Calls Tryd.prog 3 #[.int .u32 c.toNat, .slice A n cc] w fun e w' => e = .returned (.bool true) ∧ New w w' := by
  refine enter ok Tryd.func3 rfl rfl rfl ?_
  refine seq_assign ?_
  refine seq_cut (σ := Unit) (fun _ => [(0, .int .u32 (c.toNat : Int)), (1, .slice A (min n 4000) cc)]) (fun _ w' => w' = w) ?_ ?_
  rotate_left
  · intro K hK
    refine if_p (fun h => ?_) (fun h => ?_)
    · refine And.intro (by decide) (And.intro (by show (4000 : Int) ≤ (cc : Int); omega) (hK () _ _ ⟨rfl, cut_val (N := 4000) (by omega), trivial⟩ rfl))
    · refine hK () _ _ ⟨rfl, ?_, trivial⟩ rfl
      show Value.slice _ _ _ = _
      rw [Nat.min_eq_left (by omega)]
  rintro s w1 fr0 rfl
  have hn' : min n 4000 = (bs.take 4000).length := by rw [List.length_take, Nat.min_comm]; omega
  have hr' : Row w1 A (bvs (bs.take 4000)) := by rw [bvs_take]; exact hr.take _
  refine call_ (Base.Bytes_ok A _ _ _ w1 hn' hr' (by omega)) ?_
  rintro e w2 ⟨v, rfl, hown, h2⟩
  obtain ⟨A1, c1, rfl, _, _, row1, _⟩ := own_slice hown
  refine ⟨_, rfl, ?_⟩
  refine call_ (On_ok c A1 _ _ _ w2 (ht.new h2) hn' row1 (by omega)) ?_
  rintro e w' ⟨rfl, rfl⟩
  refine ⟨_, rfl, ?_⟩
  refine call_ (refOn_ok c A _ _ _ w' hn' (hr'.new h2) (by omega)) ?_
  rintro e w' ⟨rfl, rfl⟩
  refine ⟨_, rfl, ?_⟩
  refine if_yes (decide_eq_true rfl) ?_
  refine call_ (Of1_ok A1 _ _ _ w' (ht.new h2) hn' row1 (by omega)) ?_
  rintro e w3 ⟨rfl, rfl⟩
  have h3 := h2.trans (New.alloc w' (.cells #[.slice A1 (min n 4000) c1] 23))
  refine ⟨_, rfl, ?_⟩
  refine call_ (refOf_ok A _ _ _ _ hn' (hr'.new h3) (by omega)) ?_
  rintro e w3 ⟨rfl, rfl⟩
  refine ⟨_, rfl, ?_⟩
  refine if_yes (decide_eq_true rfl) ?_
  refine call_ (Base.SameBytes_ok A1 A _ _ _ _ _ _ _ hn' hn' (row1.new (New.alloc _ _)) (hr'.new h3)) ?_
  rintro e w3 ⟨rfl, rfl⟩
  refine ⟨_, rfl, ?_⟩
  refine if_yes (decide_eq_true rfl) ?_
  refine call_ (works_ok _ (ht.new h3)) ?_
  rintro e w4 ⟨rfl, h4⟩
  exact ⟨_, rfl, rfl, h3.trans h4⟩
end Go.Proofs.YtedinhcapfhlhaaDoor.Sum

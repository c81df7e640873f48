/- The statement FrameBack, walked. -/
import Derived.Test.YtpcoleeggeahlaaDoorFSmall
import Derived.Test.YtpcoleeggeahlaaDoorFOpen
namespace Go.Proofs.YtpcoleeggeahlaaDoor.Frame
open Go Go.Proofs.YtpcoleeggeahlaaDoor Go.Proofs.YtpcoleeggeahlaaDoor.Eng Go.Proofs Go.Proofs.YtpcoleeggeahlaaDoor.Sum
set_option maxRecDepth 10000

theorem rows_own {w : World} {b : Nat} {A : Option Addr} {c n : Nat} {l : List Rec} {p : Nat} {t : TypeId} (h : w.ownsRow b t 2 (.slice A n c) n (cellsOf (ends p l))) : Rows2 w A 2 (l.map recC) := by
  obtain ⟨_, _, he, _, _, row, _⟩ := own_slice h
  cases he
  rw [cells_flat, ends_snd] at row
  exact rows2_of_row (recC_len l) (by decide) row
theorem FrameBack_ok (A : Option Addr) (n c : Nat) (l : List Rec) (cut : Int) (w : World) (ht : tbl w) (hn : n = l.length) (hc : n ≤ c) (hcm : c ≤ 9223372036854775807) (hr : Rows2 w A 2 (l.map recC)) (ho : n * 24 ≤ 140737488351232 ∧ ∀ x ∈ l, RecOk x) :
    Calls Tryd.prog 5 #[.slice A n c, .int .i64 cut] w fun e w' => e = .returned (.bool true) ∧ New w w' := by
  refine enter ok Tryd.func5 rfl rfl rfl ?_
  refine call_ (works_ok w ht) ?_
  rintro e w1 ⟨rfl, n1⟩
  refine ⟨_, rfl, ?_⟩
  refine call_ (small_ok A n c l w1 hn (hr.new n1) ho.1) ?_
  rintro e w2 ⟨b2, rfl, hsmall, n2⟩
  refine ⟨_, rfl, ?_⟩
  have k2 := n1.trans n2
  cases b2 with
  | false => exact ⟨rfl, k2⟩
  | true =>
  obtain ⟨hok, hrise, htot⟩ := hsmall rfl
  have hlen : l.length ≤ 8000 := Nat.le_trans (tot_ge l) htot
  have hae : allErr l = 0 := allErr_ok l fun x hx => (hok x hx).err
  have hab : allBs l = l.flatMap enc := by unfold allBs; rw [if_pos hae]
  have hbl : (l.flatMap enc).length = tot l := rfl
  have hA := All_ok A n c l w2 (ht.new k2) hn (hr.new k2) (by omega)
  rw [hae, hab] at hA
  refine call_ hA ?_
  rintro e w3 ⟨v3, rfl, own3, n3⟩
  obtain ⟨A3, c3, rfl, hc3, hm3, row3, _⟩ := own_slice own3
  refine ⟨_, rfl, ?_⟩
  have k3 := k2.trans n3
  have hS := Scan_ok A3 (l.flatMap enc).length c3 (l.flatMap enc) w3 (ht.new k3) rfl row3 hc3 hm3 (by rw [hbl]; omega)
  have hsc := scan_encs l [] hok hrise (.inl first_none)
  rw [List.append_nil] at hsc
  have hend := endOf_ends l
  have hel := ends_len l 0
  rw [hsc, hend, hel] at hS
  refine call_ hS ?_
  rintro e w4 ⟨v4, rfl, own4, n4⟩
  obtain ⟨A4, c4, rfl, _⟩ := own_slice own4
  refine ⟨_, rfl, ?_⟩
  have k4 := k3.trans n4
  refine if_n (fun h => absurd (show (tot l : Int) = (l.flatMap enc).length by rw [hbl]) h) (fun _ => ?_)
  refine call_ (SameRecords_ok A4 A l.length c4 n c l w4 rfl hn (rows_own own4) (hr.new k4) (by omega)) ?_
  rintro e w5 ⟨rfl, n5⟩
  refine ⟨_, rfl, ?_⟩
  have k5 := k4.trans n5
  have e1 : IntKind.i64.wrap (((l.flatMap enc).length : Int) + 1) = ((tot l + 1 : Nat) : Int) := by rw [hbl, wrap_i64 (by omega) (by omega)]; omega
  have hA := Base.Among_ok cut ((tot l + 1 : Nat) : Int) w5 (by omega)
  rw [← e1] at hA
  refine call_ hA ?_
  rw [e1]
  rintro e w6 ⟨rfl, rfl⟩
  refine ⟨_, rfl, ?_⟩
  obtain ⟨j0, j1⟩ := Base.among_lt (x := cut) (n := ((tot l + 1 : Nat) : Int)) (by omega)
  obtain ⟨k, hk⟩ : ∃ k : Nat, Base.among cut ((tot l + 1 : Nat) : Int) = k := ⟨(Base.among cut ((tot l + 1 : Nat) : Int)).toNat, by omega⟩
  rw [hk] at j0 j1 ⊢
  refine And.intro j0 (And.intro (by show (k : Int) ≤ c3; omega) ?_)
  have hkt : ((l.flatMap enc).take k).length = k := by rw [List.length_take, hbl]; omega
  obtain ⟨j, hj, hsc2, htj, hlast⟩ := scan_cut l hok hrise k (by omega)
  have row6 : Row w6 A3 (bvs ((l.flatMap enc).take k)) := by
    rw [bvs_take']
    exact ((row3.new n4).new n5).take k
  have hS2 := Scan_ok A3 k c3 ((l.flatMap enc).take k) w6 (ht.new k5) hkt.symm row6 (by omega) hm3 (by omega)
  rw [hsc2, endOf_ends, ends_len] at hS2
  have hjl : (l.take j).length = j := by rw [List.length_take]; omega
  rw [hjl] at hS2
  refine call_ hS2 ?_
  rintro e w7 ⟨v7, rfl, own7, n7⟩
  obtain ⟨A7, c7, rfl, _⟩ := own_slice own7
  refine ⟨_, rfl, ?_⟩
  have k7 := k5.trans n7
  refine if_yes (decide_eq_true (show (j : Int) ≤ n by omega)) ?_
  refine And.intro (by omega) (And.intro (by omega) ?_)
  refine call_ (SameRecords_ok A7 A j c7 j c (l.take j) w7 hjl.symm hjl.symm (rows_own own7) (by rw [List.map_take]; exact (hr.new k7).take j) (by omega)) ?_
  rintro e w8 ⟨rfl, n8⟩
  refine ⟨_, rfl, ?_⟩
  have k8 := k7.trans n8
  refine if_yes (decide_eq_true (show (tot (l.take j) : Int) ≤ k by omega)) ?_
  refine if_p (fun _ => ?_) (fun hne => ?_)
  · exact ⟨rfl, k8⟩
  replace hne : ¬ (j : Int) = n := hne
  obtain ⟨hjlt, hkl⟩ : ∃ h : j < l.length, k < tot (l.take j) + (l[j].d.length + 12) := by
    rcases hlast with h | h
    · omega
    · exact h
  obtain ⟨a, rfl, hcells⟩ := hr.at_ j (by simpa using hjlt)
  have hcell : ∀ i u, (recC l[j])[i]? = some u → w8.cell? ((a.add ((j : Int).toNat * 2)).add i) = some u := fun i u hu => by rw [Int.toNat_natCast]; exact k8.cell (hcells i u (by simpa using hu))
  have hrok := hok _ (List.getElem_mem hjlt)
  generalize l[j] = r at hcell hkl hrok
  refine And.intro (by omega) (And.intro (by omega) ?_)
  refine loadN_row (vs := recC r) hcell rfl ?_
  refine call_ (Size_ok r w8 (ht.new k8)) ?_
  have hsz : (writeBs r).length = r.d.length + 12 := by unfold writeBs; rw [if_pos hrok.err, enc_len]
  rw [hsz]
  rintro e w9 ⟨rfl, n9⟩
  refine ⟨_, rfl, ?_⟩
  have hd := hrok.d
  have e9 : IntKind.i64.wrap ((tot (l.take j) : Int) + ((r.d.length + 12 : Nat) : Int)) = ((tot (l.take j) + (r.d.length + 12) : Nat) : Int) := by rw [wrap_i64 (by omega) (by omega)]; omega
  refine ⟨?_, k8.trans n9⟩
  show Ending.returned (.bool (decide ((k : Int) < IntKind.i64.wrap ((tot (l.take j) : Int) + ((r.d.length + 12 : Nat) : Int))))) = _
  rw [e9, decide_eq_true (by omega)]
end Go.Proofs.YtpcoleeggeahlaaDoor.Frame

/- Plain mathematics of machines told as bytes and read. No program in sight. -/
import Derived.Test.YteanhakkceancaaFmt
namespace Go.Proofs.Yteanhakkceancaa.Image
open Go Go.Proofs.Yteanhakkceancaa.Eng Go.Proofs.Yteanhakkceancaa.Word Go.Proofs.Yteanhakkceancaa.Fmt

structure Val where
  kind : Int
  n : Int
structure Obj where
  ty : List UInt8
  words : List Val
structure Call where
  cl : Int
  me : Int
  at_ : Int
  lock : Int
  locals : List Val
  stack : List Val
structure Thr where
  state : Int
  on : Int
  count : Int
  calls : List Call
structure Mon where
  ob : Int
  owner : Int
  count : Int
structure Mach where
  status : Int
  read : Int
  gone : Int
  steps : Int
  ins : List Int
  outs : List Int
  statics : List Val
  objs : List Obj
  thrs : List Thr
  mons : List Mon
theorem w1 : wide ((1 : Nat) : Int) = true := by decide
theorem w2 : wide ((2 : Nat) : Int) = true := by decide
theorem w4 : wide ((4 : Nat) : Int) = true := by decide
theorem w8 : wide ((8 : Nat) : Int) = true := by decide
abbrev n8 : Fmt Int := num 8 true w8
def valF : Fmt Val := via (seq (num 1 false w1) n8) (fun x => ⟨x.1, x.2⟩) (fun y => (y.kind, y.n)) (fun _ _ => rfl)
def valsF : Fmt (List Val) := list 4 w4 valF
def intsF : Fmt (List Int) := list 4 w4 n8
def objF : Fmt Obj := via (seq (filtF (text 2 w2) fun s => decide (s.length ≤ 255)) valsF) (fun x => ⟨x.1, x.2⟩) (fun y => (y.ty, y.words)) (fun _ _ => rfl)
def callF : Fmt Call := via (seq n8 (seq n8 (seq n8 (seq n8 (seq valsF valsF))))) (fun x => ⟨x.1, x.2.1, x.2.2.1, x.2.2.2.1, x.2.2.2.2.1, x.2.2.2.2.2⟩) (fun y => (y.cl, y.me, y.at_, y.lock, y.locals, y.stack)) (fun _ _ => rfl)
def thrF : Fmt Thr := via (seq n8 (seq n8 (seq n8 (list 4 w4 callF)))) (fun x => ⟨x.1, x.2.1, x.2.2.1, x.2.2.2⟩) (fun y => (y.state, y.on, y.count, y.calls)) (fun _ _ => rfl)
def monF : Fmt Mon := via (seq n8 (seq n8 n8)) (fun x => ⟨x.1, x.2.1, x.2.2⟩) (fun y => (y.ob, y.owner, y.count)) (fun _ _ => rfl)
def machF : Fmt Mach := via (seq n8 (seq n8 (seq n8 (seq n8 (seq intsF (seq intsF (seq valsF (seq (list 4 w4 objF) (seq (list 4 w4 thrF) (list 4 w4 monF))))))))))
  (fun x => ⟨x.1, x.2.1, x.2.2.1, x.2.2.2.1, x.2.2.2.2.1, x.2.2.2.2.2.1, x.2.2.2.2.2.2.1, x.2.2.2.2.2.2.2.1, x.2.2.2.2.2.2.2.2.1, x.2.2.2.2.2.2.2.2.2⟩)
  (fun y => (y.status, y.read, y.gone, y.steps, y.ins, y.outs, y.statics, y.objs, y.thrs, y.mons)) (fun _ _ => rfl)
/-- Behind how many bytes there is no room. -/
def most : Nat := 1048576
open Classical in
noncomputable def errOf (m : Mach) : Int := if machF.ok m then if (machF.enc m).length ≤ most then 0 else 3 else 2
open Classical in
noncomputable def bytesOf (m : Mach) : List UInt8 := if machF.ok m ∧ (machF.enc m).length ≤ most then machF.enc m else []
def void : Mach := ⟨0, 0, 0, 0, [], [], [], [], [], []⟩
/-- What bytes are. -/
def parseM (bs : List UInt8) : Option Mach := (machF.parse bs).bind fun r => if r.2 = [] ∧ bs.length ≤ most then some r.1 else none
theorem parse_bytes {m : Mach} (h : errOf m = 0) : parseM (bytesOf m) = some m ∧ bytesOf m = machF.enc m := by
  unfold errOf at h
  split at h
  · rename_i ho
    split at h
    · rename_i hl
      have e : bytesOf m = machF.enc m := by unfold bytesOf; rw [if_pos ⟨ho, hl⟩]
      refine ⟨?_, e⟩
      rw [e]
      unfold parseM
      rw [machF.fwd0 ho, Option.bind_some, if_pos ⟨rfl, hl⟩]
    · cases h
  · cases h
theorem parse_back {bs : List UInt8} {m : Mach} (h : parseM bs = some m) : errOf m = 0 ∧ bytesOf m = bs := by
  unfold parseM at h
  cases h1 : machF.parse bs with
  | none => rw [h1] at h; cases h
  | some r =>
    rw [h1, Option.bind_some] at h
    split at h
    · rename_i hr
      cases h
      obtain ⟨o, e⟩ := machF.bwd _ _ _ h1
      rw [hr.1, List.append_nil] at e
      refine ⟨?_, ?_⟩
      · unfold errOf
        rw [if_pos o, if_pos (by rw [← e]; exact hr.2)]
      · unfold bytesOf
        rw [if_pos ⟨o, by rw [← e]; exact hr.2⟩, e]
    · cases h
theorem parse_cut {m : Mach} (h : errOf m = 0) {k : Nat} (hk : k < (bytesOf m).length) : parseM ((bytesOf m).take k) = none := by
  obtain ⟨h1, h2⟩ := parse_bytes h
  have ho : machF.ok m := by
    unfold errOf at h
    split at h
    · assumption
    · cases h
  rw [h2] at hk ⊢
  cases h3 : parseM ((machF.enc m).take k) with
  | none => rfl
  | some y =>
    exfalso
    unfold parseM at h3
    cases h4 : machF.parse ((machF.enc m).take k) with
    | none => rw [h4] at h3; cases h3
    | some r =>
      rw [h4, Option.bind_some] at h3
      split at h3
      · rename_i hr
        obtain ⟨r1, r2⟩ := r
        have hr1 := hr.1
        simp only at hr1
        subst hr1
        exact machF.cut ho hk h4
      · cases h3
theorem parse_more {m : Mach} (h : errOf m = 0) (q : List UInt8) (hq : q ≠ []) : parseM (bytesOf m ++ q) = none := by
  obtain ⟨h1, h2⟩ := parse_bytes h
  have ho : machF.ok m := by
    unfold errOf at h
    split at h
    · assumption
    · cases h
  rw [h2]
  unfold parseM
  rw [machF.fwd _ _ ho, Option.bind_some, if_neg (fun h => hq h.1)]
end Go.Proofs.Yteanhakkceancaa.Image

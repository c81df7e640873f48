/- The engine: code of the model read as a predicate that unfolds by sight: frames as functions, one rule an operation. -/
import Derived.WalkKit
import Derived.RangeFuncLeaves
import Derived.TacticsIn
import Derived.OrdersIn
namespace Go.Proofs.YtdcaafldnbcdkaaGreatDoor.Eng
open Go

/-! ### Frames -/
abbrev Fr := Nat → Value
def upd (fr : Fr) (d : Nat) (v : Value) : Fr := fun i => bif Nat.beq i d then v else fr i
def putF (fr : Fr) (d : Option Tmp) (v : Value) : Fr := match d with
  | none => fr
  | some d => upd fr d v
def ev (fr : Fr) : Operand → Value
  | .tmp t => fr t
  | .const v => v
  | .global g => .pointer (some ⟨g, 0, none⟩)
  | .func f => .func (.func f) #[] #[]

theorem upd_same (fr : Fr) (d : Nat) (v : Value) : upd fr d v d = v := by simp [upd]
theorem upd_other (fr : Fr) {d i : Nat} (v : Value) (h : i ≠ d) : upd fr d v i = fr i := by
  have : Nat.beq i d = false := by
    cases hb : Nat.beq i d with
    | false => rfl
    | true => exact absurd (Nat.eq_of_beq_eq_true hb) h
  simp [upd, this]
theorem upd_self {fr : Fr} {d : Nat} {v : Value} (h : fr d = v) : fr = upd fr d v := by
  funext i
  by_cases hi : i = d
  · subst hi; rw [upd_same, h]
  · rw [upd_other _ _ hi]

structure Rep (D : List Deferred) (n : Nat) (fr : Fr) (a : Act) : Prop where
  defers : a.defers = D
  size : a.tmps.size = n
  read : ∀ i, a.tmps.getD i undef = fr i

theorem Rep.eval {D : List Deferred} {n : Nat} {fr : Fr} {a : Act} (h : Rep D n fr a) : a.eval = ev fr := by
  funext x
  cases x with
  | tmp t => exact h.read t
  | const v => rfl
  | global g => rfl
  | func f => rfl

theorem Rep.put {D : List Deferred} {n : Nat} {fr : Fr} {a : Act} (h : Rep D n fr a) (d : Option Tmp) (hd : ∀ j, d = some j → j < n) (v : Value) : Rep D n (putF fr d v) (a.put d v) := by
  cases d with
  | none => exact h
  | some d =>
    have hd := hd d rfl
    refine ⟨h.defers, ?_, fun i => ?_⟩
    · simp [Act.put, h.size]
    · by_cases hi : i = d
      · subst hi
        simp only [Act.put, putF, upd_same]
        simp [Array.getD_eq_getD_getElem?, h.size, hd]
      · simp only [Act.put, putF, upd_other _ _ hi]
        rw [← h.read i]
        simp [Array.getD_eq_getD_getElem?, Array.getElem?_setIfInBounds, Ne.symm hi]

/-! ### What an operation leaves -/
def callQ (P : Program) (g : FuncId) (args : List Value) (w : World) (K : Value → World → Prop) : Prop :=
  Calls P g args.toArray w fun e w' => ∃ v, e = .returned v ∧ K v w'
def uponF (P : Program) (o : Oper) (fr : Fr) (K : Fr → World → Prop) : Result Next → Prop
  | .ok (.value v) w' => K (putF fr o.dst v) w'
  | .ok .skip w' => K (putF fr o.dst undef) w'
  | .ok (.enter f args) w' => callQ P f args.toList w' fun v w'' => K (putF fr o.dst v) w''
  | .ok (.row row args) w' => Rows P row args w' fun v w'' => K (putF fr o.dst v) w''
  | .ok (.round l f tmps assign body) w' => RoundIn Fence.wide 0 P l f tmps assign body w' fun e w'' => ∃ v, e = .returned v ∧ K (putF fr o.dst v) w''
  | _ => False
def raw (P : Program) (o : Oper) (fr : Fr) (w : World) (K : Fr → World → Prop) : Prop := uponF P o fr K ((execOp (ev fr) o).run P w)

/-- Any frame: of a function, or of a round of a range over a function. -/
def fen (r : Option Nat) : Fence := { Fence.wide with round := r }
theorem fen_none : fen none = Fence.wide := rfl
theorem callsIn_fen {r : Option Nat} {n : Nat} {P : Program} {f : FuncId} {args : Array Value} {w : World} {R : Ending → World → Prop} (h : Calls P f args w R) : CallsIn (fen r) n P f args w R :=
  callsIn_wide (n := n).2 h
theorem rowsIn_fen {r : Option Nat} {n : Nat} {P : Program} {row : String} {args : Array Value} {w : World} {R : Value → World → Prop} (h : Rows P row args w R) : RowsIn (fen r) n P row args w R := fun c cs _ =>
  let ⟨v, w', hr, hs⟩ := h c cs
  ⟨v, w', hr, stepsIn_wide.2 hs⟩
theorem roundIn_fen {r : Option Nat} {m : Nat} {P : Program} {l : Nat} {f : FuncId} {tmps : Array Value} {assign body : Code} {w : World} {R : Ending → World → Prop} (h : RoundIn Fence.wide 0 P l f tmps assign body w R) : RoundIn (fen r) m P l f tmps assign body w R :=
  ⟨h.1, fun c cs _ => h.2 c cs (room_wide _)⟩

def liftK (D : List Deferred) (n : Nat) (K : Fr → World → Prop) (a : Act) (w : World) : Prop := ∃ fr, Rep D n fr a ∧ K fr w

theorem raw_defer {P : Program} {o : Oper} {fr : Fr} {w : World} {K : Fr → World → Prop} {c : Call} (ho : o.op = .defer c) (h : raw P o fr w K) : False := by
  unfold raw at h
  simp only [execOp, ho, Sem.run_bind] at h
  cases hr : (resolve (ev fr) c o.type).run P w with
  | halt x w' => rw [hr] at h; exact h
  | ok d w' => rw [hr] at h; exact h

theorem raw_wp {P : Program} {o : Oper} {fr : Fr} {w : World} {K : Fr → World → Prop} {D : List Deferred} {n m : Nat} {a : Act} {r : Option Nat} {Q : Exit → Act → World → Prop} (hd : ∀ j, o.dst = some j → j < n) (hr : Rep D n fr a)
    (h : raw P o fr w K) : o.wpIn (fen r) m P a w (liftK D n K) Q := by
  have hnd : ∀ c, o.op ≠ .defer c := fun c hc => raw_defer hc h
  unfold raw at h
  unfold Oper.wpIn
  refine ⟨fun _ _ => trivial, ?_⟩
  rw [Oper.semAt_eq _ _ _ hnd, hr.eval]
  generalize (execOp (ev fr) o).run P w = res at h ⊢
  have hdep : (fen r).depth.isSome = true → 1 ≤ m := fun h => by cases h
  cases res with
  | halt x w' => exact h.elim
  | ok x w' =>
    cases x <;> first
      | exact (h : False).elim
      | exact ⟨_, hr.put _ hd _, h⟩
      | skip
    · have h : Calls P _ (Array.toList _).toArray _ _ := h
      rw [Array.toArray_toList] at h
      refine ⟨hdep, callsIn_fen (Calls.mono (R := fun e w' => ∃ v, e = .returned v ∧ _) h ?_)⟩
      rintro e w'' ⟨v, rfl, hk⟩
      exact ⟨_, hr.put _ hd _, hk⟩
    · refine ⟨hdep, roundIn_fen (RoundIn.mono (R := fun e w'' => ∃ v, e = .returned v ∧ K (putF fr o.dst v) w'') h ?_)⟩
      rintro e w'' ⟨v, rfl, hk⟩
      exact ⟨_, hr.put _ hd _, hk⟩
    · refine ⟨hdep, rowsIn_fen (Rows.mono (R := fun v w'' => K (putF fr o.dst v) w'') h ?_)⟩
      intro v w'' hk
      exact ⟨_, hr.put _ hd _, hk⟩

/-! ### Types and functions, by a table -/
structure TI where
  desc : TypeDesc
  size : Nat
  zero : List Value
  bytes : Nat
abbrev Tab := TypeId → Option TI
structure TabOk (P : Program) (T : Tab) (F : FuncId → Bool) : Prop where
  desc : ∀ t i, T t = some i → P.underlying t = some i.desc
  size : ∀ t i, T t = some i → ∀ w, (sizeOf t).run P w = .ok i.size w
  zero : ∀ t i, T t = some i → ∀ w, ∃ v, (zeroValue t).run P w = .ok v w ∧ v.cells = i.zero.toArray
  info : ∀ t i, T t = some i → ∃ j z, P.info? t = some j ∧ j.size = i.size ∧ j.bytes = i.bytes ∧ j.zero = some z ∧ z.cells = i.zero.toArray
  fn : ∀ f, F f = true → ∀ args w, (callFunc f args).run P w = .ok (.enter f args) w

def withSome (p : Option Addr) (f : Addr → Prop) : Prop := match p with
  | some a => f a
  | none => False
def withPtr (v : Value) (f : Addr → Prop) : Prop := match v with
  | .pointer p => withSome p f
  | _ => False
@[reducible] def isAggD : TypeDesc → Bool
  | .struct _ => true
  | .array _ _ => true
  | _ => false
/-- The cells behind a slice's address read as listed. -/
def Row (w : World) (A : Option Addr) (vs : List Value) : Prop := ∀ j u, vs[j]? = some u → ∃ a, A = some a ∧ w.cell? (a.add j) = some u
/-- A byte's value. -/
def bv (b : UInt8) : Value := .int .u8 (b.toNat : Int)
def bvs (bs : List UInt8) : List Value := bs.map bv
/-- The value written out by its form. -/
def force (v : Value) (f : Value → Prop) : Prop := match v with
  | .bool b => f (.bool b)
  | .int k n => f (.int k n)
  | .float k n => f (.float k n)
  | .complex k a b => f (.complex k a b)
  | .string s => f (.string s)
  | .pointer p => f (.pointer p)
  | .slice A n c => f (.slice A n c)
  | .map r => f (.map r)
  | .chan r => f (.chan r)
  | .func g a c => f (.func g a c)
  | .nilFunc => f .nilFunc
  | .iface t v => f (.iface t v)
  | .nilIface => f .nilIface
  | .agg cs => f (.agg cs)
  | .tuple vs => f (.tuple vs)
theorem force_eq (v : Value) (f : Value → Prop) : force v f = f v := by cases v <;> rfl
def forceL : List Value → (List Value → Prop) → Prop
  | [], f => f []
  | v :: r, f => force v fun v => forceL r fun r => f (v :: r)
theorem forceL_eq : ∀ (l : List Value) (f : List Value → Prop), forceL l f = f l
  | [], _ => rfl
  | v :: r, f => by rw [forceL, force_eq, forceL_eq r]
theorem force_ {v : Value} {f : Value → Prop} (h : f v) : force v f := by rw [force_eq]; exact h
def one (v : Value) (p : Prop) : Prop := match v.oneCell' with
  | true => p
  | false => False
theorem one_of {v : Value} {p : Prop} (h : one v p) : v.oneCell' = true ∧ p := by
  unfold one at h
  cases hv : v.oneCell' <;> rw [hv] at h
  · exact h.elim
  · exact ⟨rfl, h⟩
/-- A value as its type has it. -/
def typed : TypeDesc → (Value → Prop) → Prop
  | .int k, f => ∃ x : Int, f (.int k x)
  | .bool, f => ∃ b : Bool, f (.bool b)
  | .string, f => ∃ s : ByteArray, f (.string s)
  | .pointer _, f => ∃ p : Option Addr, f (.pointer p)
  | .slice _, f => ∃ (A : Option Addr) (n c : Nat), f (.slice A n c)
  | .map _ _, f => ∃ r : Option Nat, f (.map r)
  | _, f => ∃ v, f v
theorem typed_of {d : TypeDesc} {f : Value → Prop} (h : typed d f) : ∃ v, f v := by
  cases d <;> first
    | (obtain ⟨x, h⟩ := h; exact ⟨_, h⟩)
    | (obtain ⟨A, n, c, h⟩ := h; exact ⟨_, h⟩)
def loadN (w : World) (a : Addr) : Nat → Nat → List Value → (List Value → Prop) → Prop
  | 0, _, acc, K => K acc
  | n + 1, i, acc, K => ∃ v, w.cell? (a.add i) = some v ∧ loadN w a n (i + 1) (acc ++ [v]) K
def storeN (a : Addr) : List Value → Nat → World → (World → Prop) → Prop
  | [], _, w, K => K w
  | v :: r, i, w, K => (∃ u, w.cell? (a.add i) = some u) ∧ w.frozen? (a.add i) = false ∧ v.oneCell' = true ∧ force v fun v => storeN a r (i + 1) (w.setCell (a.add i) v) K
def slA (A : Option Addr) (c l size : Nat) : Option Addr := if c = l then A else A.map (·.add (l * size))

def pickV (b : Bool) (x y : Value) : Value := match b with
  | true => x
  | false => y
def kEq : IntKind → IntKind → Bool
  | .i8, .i8 => true
  | .i16, .i16 => true
  | .i32, .i32 => true
  | .i64, .i64 => true
  | .u8, .u8 => true
  | .u16, .u16 => true
  | .u32, .u32 => true
  | .u64, .u64 => true
  | _, _ => false
theorem kEq_eq {k k' : IntKind} (h : kEq k k' = true) : k = k' := by cases k <;> cases k' <;> first | rfl | simp [kEq] at h
def onK (k k' : IntKind) (p : Prop) : Prop := match kEq k k' with
  | true => p
  | false => False
theorem onK_of {k k' : IntKind} {p : Prop} (h : onK k k' p) : k = k' ∧ p := by
  unfold onK at h
  split at h
  · rename_i hk; exact ⟨kEq_eq hk, h⟩
  · exact h.elim

def evInt (op : BinOp) (k k' : IntKind) (a b : Int) (put : Value → Prop) : Prop := match op with
  | .add => onK k k' (put (.int k (k.wrap (a + b))))
  | .sub => onK k k' (put (.int k (k.wrap (a - b))))
  | .mul => onK k k' (put (.int k (k.wrap (a * b))))
  | .quo => onK k k' (b ≠ 0 ∧ put (.int k (k.wrap (a.tdiv b))))
  | .rem => onK k k' (b ≠ 0 ∧ put (.int k (a.tmod b)))
  | .and => onK k k' (put (.int k (bits .and k a b)))
  | .or => onK k k' (put (.int k (bits .or k a b)))
  | .xor => onK k k' (put (.int k (bits .xor k a b)))
  | .andNot => onK k k' (put (.int k (bits .andNot k a b)))
  | .shl => 0 ≤ b ∧ put (.int k (k.wrap (a * 2 ^ (min b.toNat k.bits))))
  | .shr => 0 ≤ b ∧ put (.int k (a / 2 ^ (min b.toNat k.bits)))
  | .eql => onK k k' (put (.bool (decide (a = b))))
  | .neq => onK k k' (put (.bool (!decide (a = b))))
  | .lss => onK k k' (put (.bool (decide (a < b))))
  | .leq => onK k k' (put (.bool (decide (a ≤ b))))
  | .gtr => onK k k' (put (.bool (decide (b < a))))
  | .geq => onK k k' (put (.bool (decide (b ≤ a))))
def evStr (op : BinOp) (a b : ByteArray) (put : Value → Prop) (other : Prop) : Prop := match op with
  | .add => a.size + b.size ≤ 9223372036854775807 ∧ put (.string (a ++ b))
  | .eql => put (.bool (decide (a = b)))
  | .neq => put (.bool (!decide (a = b)))
  | _ => other
def evEq (op : BinOp) (b : Bool) (put : Value → Prop) (other : Prop) : Prop := match op with
  | .eql => put (.bool b)
  | .neq => put (.bool !b)
  | _ => other
def evBin (T : Tab) (t : TypeId) (op : BinOp) (x y : Value) (put : Value → Prop) (other : Prop) : Prop :=
  match x with
  | .int k a => (match y with
    | .int k' b => evInt op k k' a b put
    | _ => other)
  | .string a => (match y with
    | .string b => evStr op a b put other
    | _ => other)
  | .bool a => (match y with
    | .bool b => (match T t with
      | some ti => (match ti.desc with
        | .bool => evEq op (decide (a = b)) put other
        | _ => other)
      | none => other)
    | _ => other)
  | .pointer a => (match y with
    | .pointer none => (match T t with
      | some ti => (match ti.desc with
        | .pointer _ => evEq op a.isNone put other
        | _ => other)
      | none => other)
    | _ => other)
  | .slice A _ _ => (match y with
    | .slice none _ _ => (match T t with
      | some ti => (match ti.desc with
        | .slice _ => evEq op A.isNone put other
        | _ => other)
      | none => other)
    | _ => other)
  | _ => other
def evUn (op : UnOp) (x : Value) (put : Value → Prop) (other : Prop) : Prop := match x with
  | .int k n => (match op with
    | .neg => put (.int k (k.wrap (0 - n)))
    | .xor => put (.int k (bits .xor k (if k.signed then -1 else k.max) n))
    | _ => other)
  | .bool b => (match op with
    | .not => put (.bool !b)
    | _ => other)
  | _ => other
def onI (v : Value) (f : IntKind → Int → Prop) : Prop := match v with
  | .int k n => f k n
  | _ => False
def evIndexAddr (T : Tab) (t : TypeId) (x ix : Value) (put : Value → Prop) : Prop :=
  match T t with
  | none => False
  | some ti => match ti.desc with
    | .slice e => (match x with
      | .slice A n _ => onI ix fun _ i => 0 ≤ i ∧ i < n ∧ withSome A fun a => (match T e with
        | some te => put (.pointer (some (a.add (i.toNat * te.size))))
        | none => False)
      | _ => False)
    | .array n e => withPtr x fun a => onI ix fun _ i => 0 ≤ i ∧ i < n ∧ (match T e with
        | some te => put (.pointer (some (a.add (i.toNat * te.size))))
        | none => False)
    | _ => False
def evFieldAddr (T : Tab) (s : TypeId) (x : Value) (f : Nat) (put : Value → Prop) : Prop :=
  match T s with
  | none => False
  | some ti => match ti.desc with
    | .struct fs => (match fs.toList[f]? with
      | none => False
      | some fd => match T fd.type with
        | none => False
        | some tf => match tf.size with
          | 0 => False
          | _ + 1 => withPtr x fun a => put (.pointer (some (a.add fd.offset))))
    | _ => False
def evField (T : Tab) (s : TypeId) (x : Value) (f : Nat) (put : Value → Prop) : Prop :=
  match T s with
  | none => False
  | some ti => match ti.desc with
    | .struct fs => (match fs.toList[f]? with
      | none => False
      | some fd => match T fd.type with
        | none => False
        | some tf => match x with
          | .agg cs => (match isAggD tf.desc with
            | true => put (.agg (cs.extract fd.offset (fd.offset + tf.size)))
            | false => match cs.toList[fd.offset]? with
              | some v => put v
              | none => False)
          | _ => False)
    | _ => False
def evLoad (T : Tab) (t : TypeId) (x : Value) (w : World) (put : Value → Prop) : Prop :=
  withPtr x fun a => match T t with
  | none => False
  | some ti => match isAggD ti.desc with
    | true => loadN w a ti.size 0 [] fun vs => put (.agg vs.toArray)
    | false => typed ti.desc fun v => w.cell? a = some v ∧ put v
def evStore (T : Tab) (t : TypeId) (x v : Value) (w : World) (K : World → Prop) : Prop :=
  withPtr x fun a => match T t with
  | none => False
  | some ti => match ti.size with
    | 1 => (match isAggD ti.desc with
      | true => v.cells.size = 1 ∧ storeN a v.cells.toList 0 w K
      | false => one v ((∃ u, w.cell? a = some u) ∧ w.frozen? a = false ∧ force v fun v => K (w.setCell a v)))
    | n => v.cells.size = n ∧ storeN a v.cells.toList 0 w K
def evCall (P : Program) (F : FuncId → Bool) (f : Value) (args : List Value) (w : World) (put : Value → World → Prop) (other : Prop) : Prop :=
  match f with
  | .func fn first captured => (match fn with
    | .func g => (match F g with
      | true => callQ P g ((first.toList ++ args) ++ captured.toList) w put
      | false => other)
    | _ => other)
  | _ => other
def evLen (T : Tab) (t : TypeId) (x : Value) (put : Value → Prop) (other : Prop) : Prop := match T t with
  | none => other
  | some ti => match ti.desc with
    | .slice _ => (match x with
      | .slice _ n _ => put (.int .i64 n)
      | _ => other)
    | .string => (match x with
      | .string s => put (.int .i64 s.size)
      | _ => other)
    | _ => other
def evSlice (T : Tab) (t : TypeId) (x : Value) (lo hi : Option Value) (put : Value → Prop) (other : Prop) : Prop :=
  match x with
  | .slice A n c => (match T t with
    | none => False
    | some ti => match ti.desc with
      | .slice e => (match T e with
        | none => False
        | some te => match hi with
          | none => (match lo with
            | none => put (.slice A n c)
            | some l => onI l fun _ l => 0 ≤ l ∧ l ≤ n ∧ put (.slice (slA A c l.toNat te.size) (n - l.toNat) (c - l.toNat)))
          | some h => onI h fun _ h => match lo with
            | none => 0 ≤ h ∧ h ≤ c ∧ put (.slice A h.toNat c)
            | some l => onI l fun _ l => 0 ≤ l ∧ l ≤ h ∧ h ≤ c ∧ put (.slice (slA A c l.toNat te.size) (h.toNat - l.toNat) (c - l.toNat)))
      | _ => False)
  | .string s => (match T t with
    | none => False
    | some ti => match ti.desc with
      | .string => (match hi with
          | none => (match lo with
            | none => put (.string s)
            | some l => onI l fun _ l => 0 ≤ l ∧ l ≤ s.size ∧ put (.string (s.extract l.toNat s.size)))
          | some h => onI h fun _ h => match lo with
            | none => 0 ≤ h ∧ h ≤ s.size ∧ put (.string (s.extract 0 h.toNat))
            | some l => onI l fun _ l => 0 ≤ l ∧ l ≤ h ∧ h ≤ s.size ∧ put (.string (s.extract l.toNat h.toNat)))
      | _ => False)
  | _ => other
def evIndex (T : Tab) (t : TypeId) (x ix : Value) (put : Value → Prop) : Prop := match T t with
  | none => False
  | some ti => match ti.desc with
    | .string => (match x with
      | .string s => onI ix fun _ i => 0 ≤ i ∧ ∃ h : i.toNat < s.size, put (.int .u8 ((s[i.toNat]'h).toNat : Int))
      | _ => False)
    | .array n e => (match x with
      | .agg cs => onI ix fun _ i => 0 ≤ i ∧ i < n ∧ (match T e with
        | none => False
        | some te => match isAggD te.desc with
          | true => put (.agg (cs.extract (i.toNat * te.size) (i.toNat * te.size + te.size)))
          | false => ∃ v, cs.toList[i.toNat * te.size]? = some v ∧ put v)
      | _ => False)
    | _ => False

def fillL (place : Nat → Option (Nat × Nat)) (cells : List Value) : List (Nat × Value) → Option (List Value)
  | [] => some cells
  | (i, v) :: r => match place i with
    | none => none
    | some (off, size) => match Nat.beq v.cells.toList.length size && Nat.ble (off + size) cells.length with
      | true => fillL place (cells.take off ++ (v.cells.toList ++ cells.drop (off + size))) r
      | false => none
def fieldPlaces (T : Tab) (fs : Array Field) (i : Nat) : Option (Nat × Nat) := match fs.toList[i]? with
  | none => none
  | some f => match T f.type with
    | none => none
    | some tf => some (f.offset, tf.size)
def repeatL (z : List Value) : Nat → List Value
  | 0 => []
  | n + 1 => z ++ repeatL z n
def evBuild (T : Tab) (t : TypeId) (parts : List (Nat × Value)) (put : Value → Prop) : Prop := match T t with
  | none => False
  | some ti => match ti.desc with
    | .struct fs => (match fs.toList.all (fun f => (T f.type).isSome) with
      | true => (match fillL (fieldPlaces T fs) ti.zero parts with
        | some cells => put (.agg cells.toArray)
        | none => False)
      | false => False)
    | .array _ e => (match T e with
      | none => False
      | some te => match fillL (fun i => some (i * te.size, te.size)) ti.zero parts with
        | some cells => put (.agg cells.toArray)
        | none => False)
    | _ => False
/-- A literal: a long one is not evaluated, but said. -/
def evFill (len : Nat) (r : Option (List Value)) (k : List Value → Prop) : Prop := match Nat.ble len 9 with
  | true => (match r with
    | some cells => k cells
    | none => False)
  | false => ∃ cells, r = some cells ∧ k cells
theorem evFill_of {len : Nat} {r : Option (List Value)} {k : List Value → Prop} (h : evFill len r k) : ∃ cells, r = some cells ∧ k cells := by
  unfold evFill at h
  split at h
  · split at h
    · rename_i cells
      exact ⟨cells, rfl, h⟩
    · exact h.elim
  · exact h
theorem evFill_ {len : Nat} {r : Option (List Value)} {k : List Value → Prop} {cells : List Value} (h : r = some cells) (hk : k cells) : evFill len r k := by
  unfold evFill
  split
  · rw [h]
    exact hk
  · exact ⟨cells, h, hk⟩
def evBuildSlice (T : Tab) (t : TypeId) (len : Nat) (parts : List (Nat × Value)) (w : World) (put : Value → World → Prop) : Prop := match T t with
  | none => False
  | some ti => match ti.desc with
    | .slice e => (match T e with
      | none => False
      | some te => match Nat.ble (len * te.size) 16777216 && Nat.beq te.zero.length te.size with
        | false => False
        | true => evFill len (fillL (fun i => some (i * te.size, te.size)) (repeatL te.zero len) parts) fun cells => put (.slice (some ⟨w.heap.size, 0, none⟩) len len) (w.alloc (.cells cells.toArray e)))
    | _ => False
def evMinMax (mx : Bool) (x y : Value) (put : Value → Prop) (other : Prop) : Prop := match x with
  | .int k a => (match y with
    | .int _ b => (match mx with
      | true => put (.int k (if a < b then b else a))
      | false => put (.int k (if b < a then b else a)))
    | _ => other)
  | _ => other
/-- Bytes made a text: what they are is said by whoever walks. -/
def evStrOf (T : Tab) (src dst : TypeId) (x : Value) (R : Option Addr → List Value → Prop) (put : Value → Prop) (other : Prop) : Prop := match x with
  | .slice A n _ => (match T src with
    | none => False
    | some si => match si.desc with
      | .slice e => (match T e with
        | none => False
        | some te => match te.desc with
          | .int .u8 => (match T dst with
            | none => False
            | some di => match di.desc with
              | .string => ∃ bs : List UInt8, bs.length = n ∧ R A (bvs bs) ∧ put (.string ⟨bs.toArray⟩)
              | _ => other)
          | _ => other)
      | _ => other)
  | _ => other

/-- An operation that looks at no memory. -/
def evPure (P : Program) (T : Tab) (o : Oper) (fr : Fr) (put : Value → Prop) (other : Prop) : Prop :=
  match o.op with
  | .move x => force (ev fr x) put
  | .assign x => force (ev fr x) put
  | .pick c a b => (match ev fr c with
    | .bool t => force (pickV t (ev fr a) (ev fr b)) put
    | _ => False)
  | .binOp op t x y _ => evBin T t op (ev fr x) (ev fr y) put other
  | .unOp op _ x => evUn op (ev fr x) put other
  | .convert src dst x => (match ev fr x with
    | .int _ n => (match T src with
      | none => False
      | some _ => match T dst with
        | none => False
        | some ti => match ti.desc with
          | .int k => put (.int k (k.wrap n))
          | _ => other)
    | _ => other)
  | .indexAddr t x ix => evIndexAddr T t (ev fr x) (ev fr ix) put
  | .fieldAddr s x f => evFieldAddr T s (ev fr x) f put
  | .field s x f => evField T s (ev fr x) f fun v => force v put
  | .nilCheck x => (match ev fr x with
    | .pointer p => withSome p fun a => put (.pointer (some a))
    | _ => other)
  | .extract x i => (match ev fr x with
    | .tuple vs => (match vs.toList[i]? with
      | some v => force v put
      | none => False)
    | _ => False)
  | .makeFunc fn first captured => forceL (first.toList.map (ev fr)) fun a => forceL (captured.toList.map (ev fr)) fun b => put (.func fn a.toArray b.toArray)
  | .slice t x lo hi mx => (match mx with
    | none => evSlice T t (ev fr x) (lo.map (ev fr)) (hi.map (ev fr)) put other
    | some _ => other)
  | .index t x ix => evIndex T t (ev fr x) (ev fr ix) put
  | .call c => (match c.callee with
    | .builtin .len => (match c.args.toList with
      | [x] => (match c.argTypes.toList with
        | [t] => evLen T t (ev fr x) put other
        | _ => other)
      | _ => other)
    | .builtin .min => (match c.args.toList with
      | [x, y] => evMinMax false (ev fr x) (ev fr y) put other
      | _ => other)
    | .builtin .max => (match c.args.toList with
      | [x, y] => evMinMax true (ev fr x) (ev fr y) put other
      | _ => other)
    | _ => other)
  | .build t parts => evBuild T t (parts.toList.map fun p => (p.1, ev fr p.2)) put
  | _ => other
/-- One operation. What has no case of its own is the model's own run. -/
def evOp (P : Program) (T : Tab) (F : FuncId → Bool) (o : Oper) (fr : Fr) (w : World) (K : Fr → World → Prop) : Prop :=
  evPure P T o fr (fun v => K (putF fr o.dst v) w) (match o.op with
  | .load t a => evLoad T t (ev fr a) w fun v => K (putF fr o.dst v) w
  | .store t a v => evStore T t (ev fr a) (ev fr v) w fun w' => K (putF fr o.dst undef) w'
  | .alloc e => (match T e with
    | some te => K (putF fr o.dst (.pointer (some ⟨w.heap.size, 0, none⟩))) (w.alloc (.cells te.zero.toArray e))
    | none => False)
  | .buildSlice t len parts => evBuildSlice T t len (parts.toList.map fun p => (p.1, ev fr p.2)) w fun v w' => K (putF fr o.dst v) w'
  | .convert src dst x => evStrOf T src dst (ev fr x) (fun A vs => Row w A vs) (fun v => K (putF fr o.dst v) w) (raw P o fr w K)
  | .box e x => force (ev fr x) fun v => K (putF fr o.dst (.pointer (some ⟨w.heap.size, 0, none⟩))) (w.alloc (.cells v.cells e))
  | .call c => (match c.callee with
    | .value f => evCall P F (ev fr f) (c.args.toList.map (ev fr)) w (fun v w' => K (putF fr o.dst v) w') (raw P o fr w K)
    | _ => raw P o fr w K)
  | _ => raw P o fr w K)

/-! ### Regions and code -/
def gslot (ops : Array Oper) (j : Nat) : Option Nat := (ops[j]?).bind (·.dst)
abbrev condB (b : Bool) (A B : Prop) : Prop := match b with
  | true => A
  | false => B
def evStep (P : Program) (T : Tab) (F : FuncId → Bool) (ops : Array Oper) (o : Oper) (next : Fr → World → Prop) (fr : Fr) (w : World) : Prop := match o.guard with
  | none => evOp P T F o fr w next
  | some (j, want) => match gslot ops j with
    | none => next (putF fr o.dst undef) w
    | some d => match fr d with
      | .bool b => (match want with
        | true => condB b (evOp P T F o (upd fr d (.bool true)) w next) (next (putF (upd fr d (.bool false)) o.dst undef) w)
        | false => condB b (next (putF (upd fr d (.bool true)) o.dst undef) w) (evOp P T F o (upd fr d (.bool false)) w next))
      | _ => next (putF fr o.dst undef) w
def evOps (P : Program) (T : Tab) (F : FuncId → Bool) (ops : Array Oper) (Q : Fr → World → Prop) : List Oper → Fr → World → Prop
  | [], fr, w => Q fr w
  | o :: rest, fr, w => evStep P T F ops o (fun fr w => evOps P T F ops Q rest fr w) fr w
def thenF (next : Fr → World → Prop) (Q : Exit → Fr → World → Prop) (e : Exit) (fr : Fr) (w : World) : Prop := match e with
  | .normal => next fr w
  | e => Q e fr w
def blockF (id : Nat) (Q : Exit → Fr → World → Prop) (e : Exit) (fr : Fr) (w : World) : Prop := match e with
  | .exit j => (match Nat.beq j id with
    | true => Q .normal fr w
    | false => Q (.exit j) fr w)
  | e => Q e fr w
def liftQ (D : List Deferred) (n : Nat) (Q : Exit → Fr → World → Prop) (e : Exit) (a : Act) (w : World) : Prop := liftK D n (Q e) a w
def rawC (P : Program) (n : Nat) (c : Code) (Q : Exit → Fr → World → Prop) (fr : Fr) (w : World) : Prop := ∀ (m : Nat) (r : Option Nat) (D : List Deferred) a, Rep D n fr a → c.wpIn (fen r) m P (liftQ D n Q) a w
def den (P : Program) (T : Tab) (F : FuncId → Bool) (n : Nat) : Code → (Exit → Fr → World → Prop) → Fr → World → Prop
  | .skip, Q, fr, w => Q .normal fr w
  | .label _, Q, fr, w => Q .normal fr w
  | .region id ops draw, Q, fr, w => (match draw with
    | false => evOps P T F ops (Q .normal) ops.toList fr w
    | true => rawC P n (.region id ops true) Q fr w)
  | .seq a b, Q, fr, w => den P T F n a (thenF (fun fr w => den P T F n b Q fr w) Q) fr w
  | .cond c x y, Q, fr, w => (match ev fr c with
    | .bool b => condB b (den P T F n x Q fr w) (den P T F n y Q fr w)
    | _ => False)
  | .block id c, Q, fr, w => den P T F n c (blockF id Q) fr w
  | .loop c, Q, fr, w => ∃ (I : Nat → Fr → World → Prop) (m : Nat), I m fr w ∧ ∀ m fr w, I m fr w → den P T F n c (thenF (fun fr w => ∃ m', m' < m ∧ I m' fr w) Q) fr w
  | .exit id, Q, fr, w => Q (.exit id) fr w
  | .ret, Q, fr, w => Q .ret fr w
  | c, Q, fr, w => rawC P n c Q fr w

/-- All places that the code writes lie in the frame. -/
def codeOk (n : Nat) : Code → Bool
  | .region _ ops _ => ops.toList.all fun o => match o.dst with
    | none => true
    | some d => Nat.blt d n
  | .seq a b => codeOk n a && codeOk n b
  | .cond _ a b => codeOk n a && codeOk n b
  | .block _ c => codeOk n c
  | .loop c => codeOk n c
  | _ => true

/-! ### The table out of a list that the kernel holds against the program -/
def lkT : List (Nat × TI) → Tab
  | [], _ => none
  | p :: r, t => match Nat.beq p.1 t with
    | true => some p.2
    | false => lkT r t
def lkF : List Nat → FuncId → Bool
  | [], _ => false
  | p :: r, t => match Nat.beq p t with
    | true => true
    | false => lkF r t
def tabOf (P : Program) (t : TypeId) : Option TI := match P.underlying t, P.info? t with
  | some d, some i => (match i.zero with
    | some z => some ⟨d, i.size, z.cells.toList, i.bytes⟩
    | none => none)
  | _, _ => none
def fnOk (P : Program) (f : FuncId) : Bool := match P.funcs[f]? with
  | some fn => fn.body.isSome && !(fn.name == "runtime.NumGoroutine")
  | none => false
theorem lkT_of {P : Program} : ∀ (L : List (Nat × TI)), L.map (fun p => tabOf P p.1) = L.map (fun p => some p.2) → ∀ t i, lkT L t = some i → tabOf P t = some i
  | [], _, t, i, h => by simp [lkT] at h
  | p :: r, hL, t, i, h => by
    simp only [List.map_cons, List.cons.injEq] at hL
    unfold lkT at h
    split at h
    · rename_i hb
      rw [← Nat.eq_of_beq_eq_true hb, hL.1]
      exact h
    · exact lkT_of r hL.2 t i h
theorem lkF_of {p : FuncId → Bool} : ∀ (L : List Nat), L.all p = true → ∀ f, lkF L f = true → p f = true
  | [], _, f, h => by simp [lkF] at h
  | q :: r, hL, f, h => by
    simp only [List.all_cons, Bool.and_eq_true] at hL
    unfold lkF at h
    split at h
    · rename_i hb
      rw [← Nat.eq_of_beq_eq_true hb]
      exact hL.1
    · exact lkF_of r hL.2 f h
theorem tabOf_eq {P : Program} {t : TypeId} {i : TI} (h : tabOf P t = some i) : P.underlying t = some i.desc ∧ ∃ j z, P.info? t = some j ∧ j.size = i.size ∧ j.zero = some z ∧ z.cells.toList = i.zero ∧ j.bytes = i.bytes := by
  unfold tabOf at h
  split at h
  · rename_i d j hd hj
    split at h
    · rename_i z hz
      simp only [Option.some.injEq] at h
      subst h
      exact ⟨hd, j, z, hj, rfl, hz, rfl, rfl⟩
    · cases h
  · cases h
theorem tabOk_of {P : Program} {L : List (Nat × TI)} {M : List Nat} (hL : L.map (fun p => tabOf P p.1) = L.map (fun p => some p.2)) (hM : M.all (fnOk P) = true) : TabOk P (lkT L) (lkF M) := by
  refine ⟨?_, ?_, ?_, ?_, ?_⟩
  · exact fun t i h => (tabOf_eq (lkT_of L hL t i h)).1
  · intro t i h w
    obtain ⟨_, j, z, hj, hs, _, _, _⟩ := tabOf_eq (lkT_of L hL t i h)
    simp [sizeOf, typeInfo, hj, hs]
  · intro t i h w
    obtain ⟨_, j, z, hj, _, hz, hc, _⟩ := tabOf_eq (lkT_of L hL t i h)
    refine ⟨z, by simp [zeroValue, typeInfo, hj, hz], ?_⟩
    rw [← hc, Array.toArray_toList]
  · intro t i h
    obtain ⟨_, j, z, hj, hs, hz, hc, hb⟩ := tabOf_eq (lkT_of L hL t i h)
    exact ⟨j, z, hj, hs, hb, hz, by rw [← hc, Array.toArray_toList]⟩
  · intro f h args w
    have := lkF_of M hM f h
    unfold fnOk at this
    cases hf : P.funcs[f]? with
    | none => rw [hf] at this; cases this
    | some fn =>
      rw [hf] at this
      simp only [Bool.and_eq_true, Bool.not_eq_true'] at this
      have h1 : ¬ fn.name = "runtime.NumGoroutine" := by simpa using this.2
      have h2 : ¬ fn.body = none := by intro hb; simp [hb] at this
      simp [callFunc, hf, h1, h2]

/-! ### Soundness -/
section sound
variable {P : Program} {T : Tab} {F : FuncId → Bool}

theorem raw_value {o : Oper} {fr : Fr} {w w' : World} {K : Fr → World → Prop} {v : Value} (h : (execOp (ev fr) o).run P w = .ok (.value v) w') (k : K (putF fr o.dst v) w') : raw P o fr w K := by
  unfold raw
  rw [h]
  exact k
theorem raw_skip {o : Oper} {fr : Fr} {w w' : World} {K : Fr → World → Prop} (h : (execOp (ev fr) o).run P w = .ok .skip w') (k : K (putF fr o.dst undef) w') : raw P o fr w K := by
  unfold raw
  rw [h]
  exact k

theorem shr_run (k yk : IntKind) (x y : Int) (h₀ : 0 ≤ y) : Op.shift .shr k x yk y = pure (.int k (x / 2 ^ (min y.toNat k.bits))) := by
  have hp : (0 : Int) ≤ 2 ^ (min y.toNat k.bits) := Int.pow_nonneg (by decide)
  simp only [Op.shift, Int.fdiv_eq_ediv_of_nonneg _ hp]
  rw [if_neg (by omega)]
theorem shl_run (k yk : IntKind) (x y : Int) (h₀ : 0 ≤ y) : Op.shift .shl k x yk y = pure (.int k (k.wrap (x * 2 ^ (min y.toNat k.bits)))) := by
  simp only [Op.shift]
  rw [if_neg (by omega)]

theorem evInt_sound {op : BinOp} {k k' : IntKind} {a b : Int} {t : TypeId} {x y : Operand} {put : Value → Prop} (h : evInt op k k' a b put) :
    ∃ v, (∀ w, (do eqGuard op t x y (.int k a) (.int k' b); binOp op t (.int k a) (.int k' b) : Sem Value).run P w = .ok v w) ∧ put v := by
  cases op <;> simp only [evInt] at h
  case shl =>
    exact ⟨_, fun w => by simp [eqGuard_shl, binOp_shl, shl_run k k' a b h.1], h.2⟩
  case shr =>
    exact ⟨_, fun w => by simp [eqGuard_shr, binOp_shr, shr_run k k' a b h.1], h.2⟩
  all_goals
    replace h := onK_of h
    obtain ⟨rfl, h⟩ := h
  case quo => exact ⟨_, fun w => by simp [go_sem, h.1], h.2⟩
  case rem => exact ⟨_, fun w => by simp [go_sem, h.1], h.2⟩
  case eql => exact ⟨.bool (decide (a = b)), fun w => by by_cases e : a = b <;> simp [go_sem, e], h⟩
  case neq => exact ⟨.bool (!decide (a = b)), fun w => by by_cases e : a = b <;> simp [go_sem, e], h⟩
  all_goals exact ⟨_, fun w => by simp [go_sem], h⟩

theorem evStr_sound {op : BinOp} {a b : ByteArray} {t : TypeId} {x y : Operand} {put : Value → Prop} {other : Prop} (h : evStr op a b put other) :
    (∃ v, (∀ w, (do eqGuard op t x y (.string a) (.string b); binOp op t (.string a) (.string b) : Sem Value).run P w = .ok v w) ∧ put v) ∨ other := by
  have e : (a.toList == b.toList) = decide (a = b) := by
    rw [ByteArray.toList_eq, ByteArray.toList_eq]
    by_cases hab : a = b
    · subst hab; simp
    · have : ¬ a.data.toList = b.data.toList := fun hh => hab (ByteArray.ext (by rw [← Array.toArray_toList (xs := a.data), hh, Array.toArray_toList]))
      rw [decide_eq_false hab, beq_eq_false_iff_ne]
      exact this
  cases op <;> simp only [evStr] at h
  case add =>
    refine .inl ⟨_, fun w => ?_, h.2⟩
    have := h.1
    simp only [eqGuard_at_string, binOp, Op.stringOp, pure_bind]
    rw [if_neg (by simp; omega)]
    rfl
  case eql => exact .inl ⟨_, fun w => by simp [eqGuard_at_string, binOp, Op.stringOp, e], h⟩
  case neq => exact .inl ⟨_, fun w => by simp [eqGuard_at_string, binOp, Op.stringOp, e], h⟩
  all_goals exact .inr h

/-- It yields this value, in every world. -/
def Gives (P : Program) (o : Oper) (fr : Fr) (put : Value → Prop) (other : Prop) : Prop := (∃ v, (∀ w, (execOp (ev fr) o).run P w = .ok (.value v) w) ∧ put v) ∨ other

theorem eq_bool {t : TypeId} (hu : P.underlying t = some .bool) (d : Nat) (a b : Bool) (w : World) : (Op.equalIn (d + 1) t (.bool a) (.bool b)).run P w = .ok (decide (a = b)) w := by
  simp [Op.equalIn, run_underlying hu]
  cases a <;> cases b <;> rfl
theorem eq_ptr {t e : TypeId} (hu : P.underlying t = some (.pointer e)) (d : Nat) (a : Option Addr) (w : World) : (Op.equalIn (d + 1) t (.pointer a) (.pointer none)).run P w = .ok a.isNone w := by
  cases a <;> simp [Op.equalIn, run_underlying hu]
theorem eq_slice {t e : TypeId} (hu : P.underlying t = some (.slice e)) (d : Nat) (a : Option Addr) (n c n' c' : Nat) (w : World) : (Op.equalIn (d + 1) t (.slice a n c) (.slice none n' c')).run P w = .ok a.isNone w := by
  cases a <;> simp [Op.equalIn, run_underlying hu]
theorem evEq_sound {op : BinOp} {c : Bool} {t : TypeId} {x y : Operand} {u v : Value} {put : Value → Prop} {other : Prop}
    (hg : ∀ op, eqGuard op t x y u v = pure ()) (he : ∀ w, (Op.equal t u v).run P w = .ok c w) (hb : ∀ op, op = .eql ∨ op = .neq → binOp op t u v = (match op with
      | .eql => do pure (.bool (← Op.equal t u v))
      | _ => do pure (.bool (!(← Op.equal t u v))))) (h : evEq op c put other) :
    (∃ r, (∀ w, (do eqGuard op t x y u v; binOp op t u v : Sem Value).run P w = .ok r w) ∧ put r) ∨ other := by
  cases op <;> simp only [evEq] at h <;> try exact .inr h
  · exact .inl ⟨_, fun w => by rw [hg, hb _ (.inl rfl)]; simp [he], h⟩
  · exact .inl ⟨_, fun w => by rw [hg, hb _ (.inr rfl)]; simp [he], h⟩

theorem evBin_sound (hT : TabOk P T F) {o : Oper} {op : BinOp} {t u : TypeId} {x y : Operand} {fr : Fr} {put : Value → Prop} {other : Prop} (ho : o.op = .binOp op t x y u)
    (h : evBin T t op (ev fr x) (ev fr y) put other) : Gives P o fr put other := by
  have go : ∀ v, (∀ w, (do eqGuard op t x y (ev fr x) (ev fr y); binOp op t (ev fr x) (ev fr y) : Sem Value).run P w = .ok v w) → put v → Gives P o fr put other := by
    intro v hv hk
    refine .inl ⟨v, fun w => ?_, hk⟩
    have hv := hv w
    simp only [execOp, ho]
    simp only [Sem.run_bind] at hv ⊢
    rw [hv]
    rfl
  cases hx : ev fr x <;> rw [hx] at h go <;> simp only [evBin] at h <;> try exact .inr h
  all_goals
    cases hy : ev fr y <;> rw [hy] at h go <;> (try simp only at h) <;> try exact .inr h
  · rename_i a b
    cases ht : T t with
    | none => rw [ht] at h; exact .inr h
    | some ti =>
      rw [ht] at h
      simp only at h
      have hu := hT.desc t ti ht
      cases hd : ti.desc <;> rw [hd] at h hu <;> simp only at h <;> try exact .inr h
      rcases evEq_sound (P := P) (t := t) (x := x) (y := y) (u := .bool a) (v := .bool b) (fun op => eqGuard_at_bool op t x y _ _) (fun w => eq_bool hu 9999 a b w)
        (fun op h => by rcases h with rfl | rfl <;> rfl) h with ⟨v, hv, hk⟩ | h
      · exact go v hv hk
      · exact .inr h
  · obtain ⟨v, hv, hk⟩ := evInt_sound (P := P) (t := t) (x := x) (y := y) h
    exact go v hv hk
  · rcases evStr_sound (P := P) (t := t) (x := x) (y := y) h with ⟨v, hv, hk⟩ | h
    · exact go v hv hk
    · exact .inr h
  · rename_i a b
    cases b with
    | some b => exact .inr h
    | none =>
      simp only at h
      cases ht : T t with
      | none => rw [ht] at h; exact .inr h
      | some ti =>
        rw [ht] at h
        simp only at h
        have hu := hT.desc t ti ht
        cases hd : ti.desc <;> rw [hd] at h hu <;> simp only at h <;> try exact .inr h
        rcases evEq_sound (P := P) (t := t) (x := x) (y := y) (u := .pointer a) (v := .pointer none) (fun op => eqGuard_at_pointer op t x y _ _) (fun w => eq_ptr hu 9999 a w)
          (fun op h => by rcases h with rfl | rfl <;> rfl) h with ⟨v, hv, hk⟩ | h
        · exact go v hv hk
        · exact .inr h
  · rename_i a n c b n' c'
    cases b with
    | some b => exact .inr h
    | none =>
      simp only at h
      cases ht : T t with
      | none => rw [ht] at h; exact .inr h
      | some ti =>
        rw [ht] at h
        simp only at h
        have hu := hT.desc t ti ht
        cases hd : ti.desc <;> rw [hd] at h hu <;> simp only at h <;> try exact .inr h
        rcases evEq_sound (P := P) (t := t) (x := x) (y := y) (u := .slice a n c) (v := .slice none n' c') (fun op => eqGuard_at_slice op t x y _ _ _ _) (fun w => eq_slice hu 9999 a n c n' c' w)
          (fun op h => by rcases h with rfl | rfl <;> rfl) h with ⟨v, hv, hk⟩ | h
        · exact go v hv hk
        · exact .inr h

theorem evUn_sound {o : Oper} {op : UnOp} {t : TypeId} {x : Operand} {fr : Fr} {put : Value → Prop} {other : Prop} (ho : o.op = .unOp op t x)
    (h : evUn op (ev fr x) put other) : Gives P o fr put other := by
  have go : ∀ v, (∀ w, (Op.unary op (ev fr x)).run P w = .ok v w) → put v → Gives P o fr put other := by
    intro v hv hk
    refine .inl ⟨v, fun w => ?_, hk⟩
    simp only [execOp, ho]
    simp only [Sem.run_bind]
    rw [hv]
    rfl
  cases hx : ev fr x <;> rw [hx] at h go <;> simp only [evUn] at h <;> try exact .inr h
  all_goals
    cases op <;> simp only at h <;> try exact .inr h
  all_goals exact go _ (fun _ => rfl) h

theorem withPtr_of {v : Value} {f : Addr → Prop} (h : withPtr v f) : ∃ a, v = .pointer (some a) ∧ f a := by
  cases v with
  | pointer p => cases p with
    | some a => exact ⟨a, rfl, h⟩
    | none => exact h.elim
  | _ => exact h.elim
theorem withSome_of {p : Option Addr} {f : Addr → Prop} (h : withSome p f) : ∃ a, p = some a ∧ f a := by
  cases p with
  | some a => exact ⟨a, rfl, h⟩
  | none => exact h.elim
theorem onI_of {v : Value} {f : IntKind → Int → Prop} (h : onI v f) : ∃ k n, v = .int k n ∧ f k n := by
  cases v with
  | int k n => exact ⟨k, n, rfl, h⟩
  | _ => exact h.elim

theorem sizeOf_eq (hT : TabOk P T F) {t : TypeId} {i : TI} (h : T t = some i) (w : World) : (sizeOf t).run P w = .ok i.size w := hT.size t i h w
theorem under_eq (hT : TabOk P T F) {t : TypeId} {i : TI} (h : T t = some i) (w : World) : (underlying t).run P w = .ok i.desc w := run_underlying (hT.desc t i h) w

theorem evIndexAddr_sound (hT : TabOk P T F) {t : TypeId} {x ix : Value} {put : Value → Prop} (h : evIndexAddr T t x ix put) :
    ∃ v, (∀ w, (Instr.indexAt t x ix).run P w = .ok v w) ∧ put v := by
  unfold evIndexAddr at h
  cases ht : T t with
  | none => rw [ht] at h; exact h.elim
  | some ti =>
    rw [ht] at h
    simp only at h
    have hu := hT.desc t ti ht
    cases hd : ti.desc <;> rw [hd] at h hu <;> simp only at h
    case slice e =>
      cases x <;> simp only at h
      obtain ⟨k, i, rfl, h0, h1, h⟩ := onI_of h
      obtain ⟨a, rfl, h⟩ := withSome_of h
      cases he : T e with
      | none => rw [he] at h; exact h.elim
      | some te =>
        rw [he] at h
        refine ⟨_, fun w => ?_, h⟩
        simp [Instr.indexAt, run_underlying hu, asIntOf, h0, h1, sizeOf_eq hT he]
    case array n e =>
      obtain ⟨a, rfl, h⟩ := withPtr_of h
      obtain ⟨k, i, rfl, h0, h1, h⟩ := onI_of h
      cases he : T e with
      | none => rw [he] at h; exact h.elim
      | some te =>
        rw [he] at h
        refine ⟨_, fun w => ?_, h⟩
        simp [Instr.indexAt, run_underlying hu, asIntOf, h0, h1, sizeOf_eq hT he, Instr.sureAddr]

theorem evFieldAddr_sound (hT : TabOk P T F) {s : TypeId} {x : Value} {f : Nat} {put : Value → Prop} (h : evFieldAddr T s x f put) :
    ∃ v, (∀ w, (Instr.fieldAt s x f).run P w = .ok v w) ∧ put v := by
  unfold evFieldAddr at h
  cases ht : T s with
  | none => rw [ht] at h; exact h.elim
  | some ti =>
    rw [ht] at h
    simp only at h
    have hu := hT.desc s ti ht
    cases hd : ti.desc <;> rw [hd] at h hu <;> simp only at h
    rename_i fs
    cases hf : fs.toList[f]? with
    | none => rw [hf] at h; exact h.elim
    | some fd =>
      rw [hf] at h
      simp only at h
      cases he : T fd.type with
      | none => rw [he] at h; exact h.elim
      | some tf =>
        rw [he] at h
        simp only at h
        cases hz : tf.size with
        | zero => rw [hz] at h; exact h.elim
        | succ m =>
          rw [hz] at h
          obtain ⟨a, rfl, h⟩ := withPtr_of h
          refine ⟨_, fun w => ?_, h⟩
          have hf' : fs[f]? = some fd := by simpa using hf
          simp [Instr.fieldAt, run_underlying hu, hf', Instr.sureAddr, fieldPlace, sizeOf_eq hT he, hz]

theorem isAgg_run (hT : TabOk P T F) {t : TypeId} {i : TI} (h : T t = some i) (w : World) : (isAgg t).run P w = .ok (isAggD i.desc) w := by
  unfold isAgg
  simp only [Sem.run_bind, under_eq hT h, Result.andThen_ok]
  cases i.desc <;> rfl

theorem part_run (hT : TabOk P T F) {t : TypeId} {i : TI} (h : T t = some i) (cs : Array Value) (off : Nat) {put : Value → Prop}
    (hk : match isAggD i.desc with
      | true => put (.agg (cs.extract off (off + i.size)))
      | false => match cs.toList[off]? with
        | some v => put v
        | none => False) : ∃ v, (∀ w, (part t cs off).run P w = .ok v w) ∧ put v := by
  unfold part
  simp only [Sem.run_bind, isAgg_run hT h, Result.andThen_ok]
  cases hb : isAggD i.desc with
  | true =>
    rw [hb] at hk
    exact ⟨_, fun w => by simp [sizeOf_eq hT h], hk⟩
  | false =>
    rw [hb] at hk
    simp only at hk
    cases hv : cs.toList[off]? with
    | none => rw [hv] at hk; exact hk.elim
    | some v =>
      rw [hv] at hk
      have hv' : cs[off]? = some v := by simpa using hv
      exact ⟨v, fun w => by simp [hv'], hk⟩

theorem evField_sound (hT : TabOk P T F) {s : TypeId} {x : Value} {f : Nat} {put : Value → Prop} (h : evField T s x f put) :
    ∃ v, (∀ w, (Instr.field s x f).run P w = .ok v w) ∧ put v := by
  unfold evField at h
  cases ht : T s with
  | none => rw [ht] at h; exact h.elim
  | some ti =>
    rw [ht] at h
    simp only at h
    have hu := hT.desc s ti ht
    cases hd : ti.desc <;> rw [hd] at h hu <;> simp only at h
    rename_i fs
    cases hf : fs.toList[f]? with
    | none => rw [hf] at h; exact h.elim
    | some fd =>
      rw [hf] at h
      simp only at h
      cases he : T fd.type with
      | none => rw [he] at h; exact h.elim
      | some tf =>
        rw [he] at h
        cases x <;> simp only at h
        rename_i cs
        have hf' : fs[f]? = some fd := by simpa using hf
        obtain ⟨v, hv, hk⟩ := part_run hT he cs fd.offset h
        exact ⟨v, fun w => by simp [Instr.field, run_underlying hu, hf', asAgg, hv], hk⟩

theorem loadN_run {w : World} {a : Addr} : ∀ (n i : Nat) (acc : List Value) {K : List Value → Prop}, loadN w a n i acc K → ∃ vs, (loadCellsFrom a i n acc.toArray).run P w = .ok vs.toArray w ∧ K vs
  | 0, _, acc, _, h => ⟨acc, rfl, h⟩
  | n + 1, i, acc, K, h => by
    obtain ⟨v, hv, h⟩ := h
    obtain ⟨vs, hr, hk⟩ := loadN_run n (i + 1) _ h
    refine ⟨vs, ?_, hk⟩
    simp only [loadCellsFrom, Sem.run_bind, run_load, hv, Result.andThen_ok]
    rw [← hr]
    simp

theorem evLoad_sound (hT : TabOk P T F) {t : TypeId} {x : Value} {w : World} {put : Value → Prop} (h : evLoad T t x w put) :
    ∃ v, (Instr.loadAt t x).run P w = .ok v w ∧ put v := by
  replace h := withPtr_of h
  obtain ⟨a, rfl, h⟩ := h
  cases ht : T t with
  | none => rw [ht] at h; exact h.elim
  | some ti =>
    rw [ht] at h
    simp only at h
    cases hb : isAggD ti.desc with
    | true =>
      rw [hb] at h
      obtain ⟨vs, hr, hk⟩ := loadN_run (P := P) _ _ _ h
      refine ⟨_, ?_, hk⟩
      simp only [Instr.loadAt, Instr.sureAddr, loadVar, Sem.run_bind, Sem.run_pure, Result.andThen_ok, isAgg_run hT ht, hb, if_true, sizeOf_eq hT ht, loadCells]
      have hr' : (loadCellsFrom a 0 ti.size #[]).run P w = .ok vs.toArray w := hr
      rw [hr']
      rfl
    | false =>
      rw [hb] at h
      replace h := typed_of h
      obtain ⟨v, hv, hk⟩ := h
      refine ⟨v, ?_, hk⟩
      simp [Instr.loadAt, Instr.sureAddr, loadVar, isAgg_run hT ht, hb, hv]

theorem storeN_run {a : Addr} : ∀ (vs : List Value) (i : Nat) (w : World) {K : World → Prop}, storeN a vs i w K → ∃ w', (storeCells a vs i).run P w = .ok () w' ∧ K w'
  | [], _, w, _, h => ⟨w, rfl, h⟩
  | v :: r, i, w, K, h => by
    obtain ⟨⟨u, hu⟩, hf, h1, h⟩ := h
    rw [force_eq] at h
    obtain ⟨w', hr, hk⟩ := storeN_run r (i + 1) _ h
    refine ⟨w', ?_, hk⟩
    simp only [storeCells, Sem.run_bind, run_store P w _ v .plain h1, hu, hf, Bool.false_eq_true, if_false, Result.andThen_ok]
    exact hr
theorem oneCell_cells {v : Value} (h : v.oneCell' = true) : v.cells = #[v] := by
  cases v <;> first | rfl | simp [Value.oneCell'] at h

theorem evStore_sound (hT : TabOk P T F) {t : TypeId} {x v : Value} {w : World} {K : World → Prop} (h : evStore T t x v w K) :
    ∃ w', (Instr.storeAt t x v).run P w = .ok () w' ∧ K w' := by
  replace h := withPtr_of h
  obtain ⟨a, rfl, h⟩ := h
  cases ht : T t with
  | none => rw [ht] at h; exact h.elim
  | some ti =>
    rw [ht] at h
    have fin : ∀ w', v.cells.size = ti.size → (storeCells a v.cells.toList 0).run P w = .ok () w' → (Instr.storeAt t (.pointer (some a)) v).run P w = .ok () w' := by
      intro w' hs hr
      simp only [Instr.storeAt, Instr.sureAddr, storeVar, Sem.run_bind, Sem.run_pure, Result.andThen_ok, sizeOf_eq hT ht, hs, ne_eq, not_true_eq_false, if_false]
      exact hr
    have multi : v.cells.size = ti.size ∧ storeN a v.cells.toList 0 w K → ∃ w', (Instr.storeAt t (.pointer (some a)) v).run P w = .ok () w' ∧ K w' := by
      rintro ⟨hs, h⟩
      obtain ⟨w', hr, hk⟩ := storeN_run (P := P) _ _ _ h
      exact ⟨w', fin w' hs hr, hk⟩
    simp only at h
    split at h
    · rename_i hz
      cases hb : isAggD ti.desc with
      | true => rw [hb] at h; exact multi (by rw [hz]; exact h)
      | false =>
        rw [hb] at h
        replace h := one_of h
        obtain ⟨h1, ⟨u, hu⟩, hf, hk⟩ := h
        rw [force_eq] at hk
        have hc := oneCell_cells h1
        refine ⟨_, fin _ (by rw [hc, hz]; rfl) ?_, hk⟩
        rw [hc]
        simp [storeCells, run_store P w a v .plain h1, hu, hf, Addr.add]
    · exact multi h


theorem evCall_sound (hT : TabOk P T F) {o : Oper} {c : Call} {f : Operand} {fr : Fr} {w : World} {K : Fr → World → Prop} (ho : o.op = .call c) (hc : c.callee = .value f)
    (h : evCall P F (ev fr f) (c.args.toList.map (ev fr)) w (fun v w' => K (putF fr o.dst v) w') (raw P o fr w K)) : raw P o fr w K := by
  cases hf : ev fr f <;> rw [hf] at h <;> simp only [evCall] at h <;> try exact h
  rename_i fn first captured
  cases fn <;> simp only at h <;> try exact h
  rename_i g
  cases hg : F g with
  | false => rw [hg] at h; exact h
  | true =>
    rw [hg] at h
    unfold raw
    have : (execOp (ev fr) o).run P w = .ok (.enter g ((first ++ c.args.map (ev fr)) ++ captured)) w := by
      simp only [execOp, ho, resolve, hc, hf, Deferred.ofValue]
      simp only [Sem.run_bind, Sem.run_pure, Result.andThen_ok, invoke]
      exact hT.fn g hg _ w
    rw [this]
    unfold uponF
    simpa using h

theorem evLen_sound (hT : TabOk P T F) {o : Oper} {c : Call} {x : Operand} {t : TypeId} {fr : Fr} {put : Value → Prop} {other : Prop} (ho : o.op = .call c) (hc : c.callee = .builtin .len)
    (hx : c.args.toList = [x]) (hty : c.argTypes.toList = [t]) (h : evLen T t (ev fr x) put other) : Gives P o fr put other := by
  have hx' : c.args = #[x] := by rw [← Array.toArray_toList (xs := c.args), hx]
  have ht' : c.argTypes = #[t] := by rw [← Array.toArray_toList (xs := c.argTypes), hty]
  have go : ∀ v, (∀ w, (Builtin.len_ #[t] o.type #[ev fr x]).run P w = .ok v w) → put v → Gives P o fr put other := by
    intro v hv hk
    refine .inl ⟨v, fun w => ?_, hk⟩
    simp only [execOp, ho, resolve, hc, hx', ht', Sem.run_bind, Sem.run_pure, Result.andThen_ok, invoke, builtin, List.map_toArray, List.map_cons, List.map_nil]
    rw [hv]
    rfl
  unfold evLen at h
  cases ht : T t with
  | none => rw [ht] at h; exact .inr h
  | some i =>
    rw [ht] at h
    simp only at h
    have hu := hT.desc t i ht
    cases hi : i.desc <;> rw [hi] at h hu <;> simp only at h <;> try exact .inr h
    all_goals
      cases hv : ev fr x <;> rw [hv] at h <;> simp only at h <;> try exact .inr h
      refine go _ (fun w => ?_) h
      rw [hv]
      simp [Builtin.len_, run_underlying hu, goInt]

theorem sliceBound_run {k : IntKind} {i : Int} {y : Nat} {code : BoundsCode} {w : World} (h0 : 0 ≤ i) (h1 : i ≤ y) : (Instr.sliceBound (.int k i) y code).run P w = .ok i.toNat w := by
  simp [Instr.sliceBound, asIntOf, h0, h1]

theorem evSlice_sound (hT : TabOk P T F) {t : TypeId} {x : Value} {lo hi : Option Value} {put : Value → Prop} {other : Prop} (h : evSlice T t x lo hi put other) :
    (∃ v, (∀ w, (Instr.sliceAt t x lo hi none).run P w = .ok v w) ∧ put v) ∨ other := by
  cases x <;> simp only [evSlice] at h <;> try exact .inr h
  · rename_i s
    left
    cases ht : T t with
    | none => rw [ht] at h; exact h.elim
    | some i =>
      rw [ht] at h
      simp only at h
      have hu := hT.desc t i ht
      cases hi' : i.desc <;> rw [hi'] at h hu <;> simp only at h
      have r : ∀ l h' m, (∀ w, (Instr.sliceBounds false s.size s.size lo hi none).run P w = .ok (l, h', m) w) → ∀ w, (Instr.sliceAt t (.string s) lo hi none).run P w = .ok (.string (s.extract l h')) w := by
        intro l h' m hb w
        simp [Instr.sliceAt, Instr.slice, run_underlying hu, hb]
      cases hi with
      | none =>
        simp only at h
        cases lo with
        | none => exact ⟨_, r 0 s.size s.size (fun w => by simp [Instr.sliceBounds]), by simpa using h⟩
        | some l =>
          simp only at h
          replace h := onI_of h
          obtain ⟨k, l, rfl, h0, h1, h⟩ := h
          exact ⟨_, r l.toNat s.size s.size (fun w => by simp [Instr.sliceBounds, sliceBound_run h0 h1]), h⟩
      | some hv =>
        simp only at h
        replace h := onI_of h
        obtain ⟨k, hh, rfl, h⟩ := h
        cases lo with
        | none =>
          simp only at h
          exact ⟨_, r 0 hh.toNat s.size (fun w => by simp [Instr.sliceBounds, sliceBound_run h.1 h.2.1]), h.2.2⟩
        | some l =>
          simp only at h
          replace h := onI_of h
          obtain ⟨k', l, rfl, h0, h1, h2, h⟩ := h
          exact ⟨_, r l.toNat hh.toNat s.size (fun w => by simp [Instr.sliceBounds, sliceBound_run (k := k) (i := hh) (y := s.size) (by omega) h2, sliceBound_run (k := k') (i := l) (y := hh.toNat) h0 (by omega)]), h⟩
  · rename_i A n c
    left
    cases ht : T t with
    | none => rw [ht] at h; exact h.elim
    | some i =>
      rw [ht] at h
      simp only at h
      have hu := hT.desc t i ht
      cases hi' : i.desc <;> rw [hi'] at h hu <;> simp only at h
      rename_i e
      cases he : T e with
      | none => rw [he] at h; exact h.elim
      | some te =>
        rw [he] at h
        simp only at h
        have r : ∀ l h', (∀ w, (Instr.sliceBounds true n c lo hi none).run P w = .ok (l, h', c) w) → ∀ w, (Instr.sliceAt t (.slice A n c) lo hi none).run P w = .ok (.slice (slA A c l te.size) (h' - l) (c - l)) w := by
          intro l h' hb w
          simp [Instr.sliceAt, Instr.slice, run_underlying hu, hb, sizeOf_eq hT he, slA]
        have z : slA A c 0 te.size = A := by
          unfold slA
          split
          · rfl
          · cases A <;> simp [Addr.add]
        cases hi with
        | none =>
          simp only at h
          cases lo with
          | none => exact ⟨_, r 0 n (fun w => by simp [Instr.sliceBounds]), by simpa [z] using h⟩
          | some l =>
            simp only at h
            replace h := onI_of h
            obtain ⟨k, l, rfl, h0, h1, h⟩ := h
            exact ⟨_, r l.toNat n (fun w => by simp [Instr.sliceBounds, sliceBound_run h0 h1]), h⟩
        | some hv =>
          simp only at h
          replace h := onI_of h
          obtain ⟨k, hh, rfl, h⟩ := h
          cases lo with
          | none =>
            simp only at h
            exact ⟨_, r 0 hh.toNat (fun w => by simp [Instr.sliceBounds, sliceBound_run h.1 h.2.1]), by simpa [z] using h.2.2⟩
          | some l =>
            simp only at h
            replace h := onI_of h
            obtain ⟨k', l, rfl, h0, h1, h2, h⟩ := h
            exact ⟨_, r l.toNat hh.toNat (fun w => by simp [Instr.sliceBounds, sliceBound_run (k := k) (i := hh) (y := c) (by omega) h2, sliceBound_run (k := k') (i := l) (y := hh.toNat) h0 (by omega)]), h⟩

theorem evIndex_sound (hT : TabOk P T F) {t : TypeId} {x ix : Value} {put : Value → Prop} (h : evIndex T t x ix put) :
    ∃ v, (∀ w, (Instr.index t x ix).run P w = .ok v w) ∧ put v := by
  unfold evIndex at h
  cases ht : T t with
  | none => rw [ht] at h; exact h.elim
  | some ti =>
    rw [ht] at h
    simp only at h
    have hu := hT.desc t ti ht
    cases hd : ti.desc <;> rw [hd] at h hu <;> simp only at h
    case string =>
      cases x <;> simp only at h
      rename_i s
      replace h := onI_of h
      obtain ⟨k, i, rfl, h0, h1, h⟩ := h
      refine ⟨_, fun w => ?_, h⟩
      have e : s[i.toNat]? = some (s[i.toNat]'h1) := by simp [h1]
      simp [Instr.index, run_underlying hu, asIntOf, h0, e]
    case array n e =>
      cases x <;> simp only at h
      rename_i cs
      replace h := onI_of h
      obtain ⟨k, i, rfl, h0, h1, h⟩ := h
      cases he : T e with
      | none => rw [he] at h; exact h.elim
      | some te =>
        rw [he] at h
        simp only at h
        have hp : match isAggD te.desc with
            | true => put (.agg (cs.extract (i.toNat * te.size) (i.toNat * te.size + te.size)))
            | false => match cs.toList[i.toNat * te.size]? with
              | some v => put v
              | none => False := by
          cases hb : isAggD te.desc with
          | true => rw [hb] at h; exact h
          | false =>
            rw [hb] at h
            obtain ⟨v, hv, hk⟩ := h
            simp only
            rw [hv]
            exact hk
        obtain ⟨v, hv, hk⟩ := part_run hT he cs (i.toNat * te.size) hp
        exact ⟨v, fun w => by simp [Instr.index, run_underlying hu, asIntOf, h0, h1, sizeOf_eq hT he, hv], hk⟩

/-! The model's filling in, over lists. -/
theorem fill_fold : ∀ (vs : List Value) (k : Nat) (cs : List Value) (off : Nat), off + k + vs.length ≤ cs.length →
    (vs.zipIdx k).foldl (fun (cs : Array Value) (p : Value × Nat) => cs.setIfInBounds (off + p.2) p.1) cs.toArray = (cs.take (off + k) ++ (vs ++ cs.drop (off + k + vs.length))).toArray := by
  intro vs
  induction vs with
  | nil => intro k cs off _; simp
  | cons v r ih =>
    intro k cs off h
    simp only [List.length_cons] at h
    rw [List.zipIdx_cons, List.foldl_cons]
    simp only [List.setIfInBounds_toArray]
    rw [ih (k + 1) (cs.set (off + k) v) off (by simp; omega)]
    congr 1
    have e1 : (cs.set (off + k) v).take (off + (k + 1)) = cs.take (off + k) ++ [v] := by
      have hlt : off + k < (cs.set (off + k) v).length := by simp; omega
      rw [← Nat.add_assoc, List.take_succ_eq_append_getElem hlt]
      simp only [List.take_set, List.getElem_set_self]
      rw [List.set_eq_of_length_le (by simp; omega)]
    have e2 : (cs.set (off + k) v).drop (off + (k + 1) + r.length) = cs.drop (off + k + (r.length + 1)) := by
      rw [List.drop_set]
      rw [if_pos (by omega)]
      congr 1
      omega
    rw [e1, e2]
    simp
theorem fill_list {place : Nat → Option (Nat × Nat)} : ∀ (parts : List (Nat × Value)) (cells : List Value) {out : List Value}, fillL place cells parts = some out → Instr.fill place cells.toArray parts = some out.toArray
  | [], cells, out, h => by simp only [fillL, Option.some.injEq] at h; subst h; rfl
  | (i, v) :: r, cells, out, h => by
    unfold fillL at h
    unfold Instr.fill
    cases hp : place i with
    | none => rw [hp] at h; cases h
    | some q =>
      obtain ⟨off, size⟩ := q
      rw [hp] at h
      simp only at h ⊢
      split at h
      · rename_i hb
        simp only [Bool.and_eq_true] at hb
        have h1 : v.cells.toList.length = size := Nat.eq_of_beq_eq_true hb.1
        have h2 : off + size ≤ cells.length := Nat.le_of_ble_eq_true hb.2
        have h1' : v.cells.size = size := by rw [← h1]; simp
        rw [if_neg (by simp [h1']; omega)]
        have := fill_list r _ h
        rw [← this]
        congr 1
        have hf := fill_fold v.cells.toList 0 cells off (by omega)
        simp only [Nat.add_zero] at hf
        rw [h1] at hf
        rw [← hf]
        have hz : v.cells.zipIdx.toList = v.cells.toList.zipIdx := by simp
        rw [← Array.foldl_toList, hz]
      · cases h

theorem map_toList_toArray (xs : Array (Nat × Operand)) (fr : Fr) : (xs.map fun (i, x) => (i, ev fr x)).toList = xs.toList.map fun p => (p.1, ev fr p.2) := by
  rw [Array.toList_map]

theorem evBuild_sound (hT : TabOk P T F) {t : TypeId} {parts : Array (Nat × Value)} {put : Value → Prop} (h : evBuild T t parts.toList put) : ∃ v, (∀ w, (Instr.build t parts).run P w = .ok v w) ∧ put v := by
  unfold evBuild at h
  cases ht : T t with
  | none => rw [ht] at h; exact h.elim
  | some ti =>
    rw [ht] at h
    simp only at h
    have hu := hT.desc t ti ht
    have hz : ∀ w, ∃ v, (zeroValue t).run P w = .ok v w ∧ v.cells = ti.zero.toArray := hT.zero t ti ht
    cases hd : ti.desc <;> rw [hd] at h hu <;> simp only at h
    case struct fs =>
      split at h
      · rename_i hall
        split at h
        · rename_i cells hc
          refine ⟨_, fun w => ?_, h⟩
          obtain ⟨z, hz1, hz2⟩ := hz w
          have hm : ∃ places : Array (Nat × Nat), (fs.mapM (m := Sem) fun f => do pure (f.offset, ← sizeOf f.type)).run P w = .ok places w ∧ ∀ i : Nat, places[i]? = fieldPlaces T fs i := by
            have gen : ∀ (l : List Field), l.all (fun f => (T f.type).isSome) = true → ∃ ps : List (Nat × Nat), (l.mapM (m := Sem) fun f => do pure (f.offset, ← sizeOf f.type)).run P w = .ok ps w ∧ ∀ i : Nat, ps[i]? = (match l[i]? with
                | none => none
                | some f => match T f.type with
                  | none => none
                  | some tf => some (f.offset, tf.size)) := by
              intro l
              induction l with
              | nil => intro _; exact ⟨[], rfl, fun i => by simp⟩
              | cons f r ih =>
                intro hl
                simp only [List.all_cons, Bool.and_eq_true] at hl
                obtain ⟨ps, hr, hp⟩ := ih hl.2
                obtain ⟨tf, htf⟩ := Option.isSome_iff_exists.mp hl.1
                refine ⟨(f.offset, tf.size) :: ps, ?_, ?_⟩
                · simp only [List.mapM_cons, Sem.run_bind, sizeOf_eq hT htf, Result.andThen_ok, Sem.run_pure]
                  try simp only [Sem.run_bind] at hr
                  rw [hr]
                  rfl
                · intro i
                  cases i with
                  | zero => simp [htf]
                  | succ i => simpa using hp i
            obtain ⟨ps, hr, hp⟩ := gen fs.toList hall
            refine ⟨ps.toArray, ?_, fun i => by simpa [fieldPlaces] using hp i⟩
            rw [Array.mapM_eq_mapM_toList, Sem.run_map, hr]
            rfl
          obtain ⟨places, hm, hp⟩ := hm
          have hp' : (fun i => places[i]?) = fieldPlaces T fs := funext hp
          have hf := fill_list _ _ hc
          rw [← hp'] at hf
          simp only [Instr.build, Sem.run_bind, hz1, Result.andThen_ok, run_underlying hu, hz2]
          try simp only [Sem.run_bind] at hm
          rw [hm]
          simp only [Result.andThen_ok, hf]
          rfl
        · exact h.elim
      · exact h.elim
    case array n e =>
      cases he : T e with
      | none => rw [he] at h; exact h.elim
      | some te =>
        rw [he] at h
        simp only at h
        split at h
        · rename_i cells hc
          refine ⟨_, fun w => ?_, h⟩
          obtain ⟨z, hz1, hz2⟩ := hz w
          simp only [Instr.build, Sem.run_bind, hz1, Result.andThen_ok, run_underlying hu, hz2, sizeOf_eq hT he]
          rw [fill_list _ _ hc]
          rfl
        · exact h.elim

theorem evMinMax_sound {o : Oper} {c : Call} {x y : Operand} {fr : Fr} {put : Value → Prop} {other : Prop} (mx : Bool) (ho : o.op = .call c) (hc : c.callee = .builtin (if mx then .max else .min))
    (hx : c.args.toList = [x, y]) (h : evMinMax mx (ev fr x) (ev fr y) put other) : Gives P o fr put other := by
  have hx' : c.args = #[x, y] := by rw [← Array.toArray_toList (xs := c.args), hx]
  cases hvx : ev fr x <;> rw [hvx] at h <;> simp only [evMinMax] at h <;> try exact .inr h
  cases hvy : ev fr y <;> rw [hvy] at h <;> simp only at h <;> try exact .inr h
  cases mx <;> simp only at h
  · refine .inl ⟨_, fun w => ?_, h⟩
    simp only [Bool.false_eq_true, if_false] at hc
    simp [execOp, ho, resolve, hc, hx', invoke, builtin, Builtin.min_, Builtin.min2, hvx, hvy]
  · refine .inl ⟨_, fun w => ?_, h⟩
    simp only [if_true] at hc
    simp [execOp, ho, resolve, hc, hx', invoke, builtin, Builtin.max_, Builtin.max2, hvx, hvy]

theorem evPure_sound (hT : TabOk P T F) {o : Oper} {fr : Fr} {put : Value → Prop} {other : Prop} (h : evPure P T o fr put other) : Gives P o fr put other := by
  unfold evPure at h
  cases ho : o.op <;> rw [ho] at h <;> (try simp only at h) <;> try exact .inr h
  case move x =>
    rw [force_eq] at h
    exact .inl ⟨_, fun w => by simp [execOp, ho], h⟩
  case assign x =>
    rw [force_eq] at h
    exact .inl ⟨_, fun w => by simp [execOp, ho], h⟩
  case pick c a b =>
    cases hc : ev fr c <;> rw [hc] at h <;> simp only at h
    rename_i t
    rw [force_eq] at h
    cases t
    · exact .inl ⟨_, fun w => by simp [execOp, ho, hc, asBool, pickV], h⟩
    · exact .inl ⟨_, fun w => by simp [execOp, ho, hc, asBool, pickV], h⟩
  case binOp op t x y u => exact evBin_sound hT ho h
  case unOp op t x => exact evUn_sound ho h
  case convert src dst x =>
    cases hx : ev fr x <;> rw [hx] at h <;> simp only at h <;> try exact .inr h
    rename_i k n
    cases hs : T src with
    | none => rw [hs] at h; exact h.elim
    | some si =>
      rw [hs] at h
      simp only at h
      cases hd : T dst with
      | none => rw [hd] at h; exact h.elim
      | some di =>
        rw [hd] at h
        simp only at h
        have hu := hT.desc dst di hd
        have hus := hT.desc src si hs
        cases hdd : di.desc <;> rw [hdd] at h hu <;> simp only at h <;> try exact .inr h
        refine .inl ⟨_, fun w => ?_, h⟩
        simp [execOp, ho, hx, convert, run_underlying hus, run_underlying hu, Conv.intToInt]
  case indexAddr t x ix =>
    obtain ⟨v, hr, hk⟩ := evIndexAddr_sound (P := P) hT h
    exact .inl ⟨v, fun w => by simp [execOp, ho, hr], hk⟩
  case fieldAddr s x f =>
    obtain ⟨v, hr, hk⟩ := evFieldAddr_sound (P := P) hT h
    exact .inl ⟨v, fun w => by simp [execOp, ho, hr], hk⟩
  case field s x f =>
    obtain ⟨v, hr, hk⟩ := evField_sound (P := P) hT h
    rw [force_eq] at hk
    exact .inl ⟨v, fun w => by simp [execOp, ho, hr], hk⟩
  case nilCheck x =>
    cases hx : ev fr x <;> rw [hx] at h <;> simp only at h <;> try exact .inr h
    replace h := withSome_of h
    obtain ⟨a, rfl, h⟩ := h
    exact .inl ⟨_, fun w => by simp [execOp, ho, hx], h⟩
  case extract x i =>
    cases hx : ev fr x <;> rw [hx] at h <;> simp only at h
    rename_i vs
    cases hv : vs.toList[i]? with
    | none => rw [hv] at h; exact h.elim
    | some v =>
      rw [hv] at h
      have hv' : vs[i]? = some v := by simpa using hv
      simp only at h
      rw [force_eq] at h
      exact .inl ⟨v, fun w => by simp [execOp, ho, hx, Instr.extract, hv'], h⟩
  case makeFunc fn first captured =>
    have e : ∀ xs : Array Operand, (xs.toList.map (ev fr)).toArray = xs.map (ev fr) := fun xs => by
      rw [← Array.toList_map, Array.toArray_toList]
    refine .inl ⟨.func fn (first.map (ev fr)) (captured.map (ev fr)), fun w => by simp [execOp, ho, Instr.makeFunc], ?_⟩
    rw [← e, ← e]
    rw [forceL_eq, forceL_eq] at h
    exact h
  case slice t x lo hi mx =>
    cases mx with
    | some m => exact .inr h
    | none =>
      rcases evSlice_sound (P := P) hT h with ⟨v, hr, hk⟩ | h
      · exact .inl ⟨v, fun w => by simp [execOp, ho, hr], hk⟩
      · exact .inr h
  case index t x ix =>
    obtain ⟨v, hr, hk⟩ := evIndex_sound (P := P) hT h
    exact .inl ⟨v, fun w => by simp [execOp, ho, hr], hk⟩
  case call c =>
    cases hc : c.callee <;> rw [hc] at h <;> (try simp only at h) <;> try exact .inr h
    rename_i b
    cases b <;> (try simp only at h) <;> try exact .inr h
    case len =>
      split at h <;> try exact .inr h
      rename_i x hx
      split at h <;> try exact .inr h
      rename_i t ht
      exact evLen_sound hT ho hc hx ht h
    case max =>
      split at h <;> try exact .inr h
      rename_i x y hx
      exact evMinMax_sound true ho hc hx h
    case min =>
      split at h <;> try exact .inr h
      rename_i x y hx
      exact evMinMax_sound false ho hc hx h
  case build t parts =>
    rw [← map_toList_toArray] at h
    obtain ⟨v, hr, hk⟩ := evBuild_sound (P := P) hT h
    exact .inl ⟨v, fun w => by simp [execOp, ho, hr], hk⟩

theorem repeatL_length (z : List Value) : ∀ n, (repeatL z n).length = n * z.length
  | 0 => by simp [repeatL]
  | n + 1 => by simp [repeatL, repeatL_length z n, Nat.succ_mul, Nat.add_comm]
theorem repeatL_get (z : List Value) : ∀ (n i : Nat), i < n * z.length → (repeatL z n)[i]? = z[i % z.length]?
  | 0, i, h => by simp at h
  | n + 1, i, h => by
    unfold repeatL
    by_cases hi : i < z.length
    · rw [List.getElem?_append_left hi, Nat.mod_eq_of_lt hi]
    · have hle : z.length ≤ i := by omega
      rw [List.getElem?_append_right hle, repeatL_get z n (i - z.length) (by rw [Nat.succ_mul] at h; omega), ← Nat.mod_eq_sub_mod hle]

theorem evBuildSlice_sound (hT : TabOk P T F) {t : TypeId} {len : Nat} {parts : Array (Nat × Value)} {w : World} {put : Value → World → Prop} (h : evBuildSlice T t len parts.toList w put) :
    ∃ v w', (Instr.buildSlice t len parts).run P w = .ok v w' ∧ put v w' := by
  unfold evBuildSlice at h
  cases ht : T t with
  | none => rw [ht] at h; exact h.elim
  | some ti =>
    rw [ht] at h
    simp only at h
    have hu := hT.desc t ti ht
    cases hd : ti.desc <;> rw [hd] at h hu <;> simp only at h
    rename_i e
    cases he : T e with
    | none => rw [he] at h; exact h.elim
    | some te =>
      rw [he] at h
      simp only at h
      split at h
      · exact h.elim
      · rename_i hb
        simp only [Bool.and_eq_true] at hb
        have h1 : len * te.size ≤ 16777216 := Nat.le_of_ble_eq_true hb.1
        have h2 : te.zero.length = te.size := Nat.eq_of_beq_eq_true hb.2
        obtain ⟨cells, hc, h⟩ := evFill_of h
        refine ⟨_, _, ?_, h⟩
        obtain ⟨z, hz1, hz2⟩ := hT.zero e te he w
        have hinit : ∀ zz : Array Value, (len * te.size ≠ 0 → zz = te.zero.toArray) → ((Array.range (len * te.size)).map (fun i => zz[i % zz.size]!)) = (repeatL te.zero len).toArray := by
          intro zz hzz
          apply Array.ext'
          rw [Array.toList_map, Array.toList_range]
          apply List.ext_getElem?
          intro i
          by_cases hi : i < len * te.size
          · have hne : len * te.size ≠ 0 := by omega
            have hsz : 0 < te.size := Nat.pos_of_ne_zero fun h0 => hne (by rw [h0, Nat.mul_zero])
            rw [hzz hne]
            rw [repeatL_get _ _ _ (by rw [h2]; exact hi)]
            have hm : i % te.zero.length < te.zero.length := Nat.mod_lt _ (by omega)
            simp [hi, hm]
          · rw [List.getElem?_eq_none (by simp; omega), List.getElem?_eq_none (by rw [repeatL_length, h2]; omega)]
        have hfill := fill_list _ _ hc
        have hs : ¬ len * te.size > 2 ^ 24 := by omega
        simp only [Instr.buildSlice, Sem.run_bind, run_underlying hu, Result.andThen_ok, sizeOf_eq hT he]
        rw [if_neg hs]
        try simp only [Sem.run_pure, Result.andThen_ok, pure_bind, Sem.run_bind]
        by_cases h0 : len * te.size = 0
        · rw [if_pos h0]
          try simp only [Sem.run_pure, Result.andThen_ok]
          rw [hinit #[] (fun h => absurd h0 h), hfill]
          simp [newRow]
        · rw [if_neg h0]
          simp only [Sem.run_bind, hz1, Result.andThen_ok, Sem.run_pure, hz2]
          rw [hinit _ (fun _ => rfl), hfill]
          simp [newRow]

theorem row_loads {w : World} : ∀ (bs : List UInt8) (a : Addr) (i : Nat) (acc : List Value), (∀ j u, (bvs bs)[j]? = some u → w.cell? (a.add (i + j)) = some u) →
    (loadCellsFrom a i bs.length acc.toArray).run P w = .ok (acc ++ bvs bs).toArray w
  | [], a, i, acc, _ => by simp [loadCellsFrom, bvs]
  | b :: r, a, i, acc, h => by
    have h0 : w.cell? (a.add i) = some (bv b) := h 0 (bv b) rfl
    simp only [List.length_cons, loadCellsFrom, Sem.run_bind, run_load, h0, Result.andThen_ok]
    have := row_loads r a (i + 1) (acc ++ [bv b]) (fun j u hu => by
      have := h (j + 1) u (by simpa [bvs] using hu)
      rwa [show i + 1 + j = i + (j + 1) by omega])
    rw [show (acc.toArray.push (bv b)) = (acc ++ [bv b]).toArray by simp, this]
    simp [bvs]
theorem fold_push : ∀ (bs : List UInt8) (s : ByteArray), (bs.map fun b => (b.toNat : Int)).foldl (fun r n => r.push (UInt8.ofNat n.toNat)) s = s ++ ⟨bs.toArray⟩
  | [], s => by
    apply ByteArray.ext
    simp
  | b :: r, s => by
    simp only [List.map_cons, List.foldl_cons, Int.toNat_natCast]
    rw [fold_push r]
    apply ByteArray.ext
    simp
theorem evStrOf_sound (hT : TabOk P T F) {src dst : TypeId} {x : Value} {w : World} {put : Value → Prop} {other : Prop} (h : evStrOf T src dst x (fun A vs => Row w A vs) put other) :
    (∃ v, (convert src dst x).run P w = .ok v w ∧ put v) ∨ other := by
  cases x <;> simp only [evStrOf] at h <;> try exact .inr h
  rename_i A n c
  cases hs : T src with
  | none => rw [hs] at h; exact h.elim
  | some si =>
    rw [hs] at h
    simp only at h
    have hus := hT.desc src si hs
    cases hsd : si.desc <;> rw [hsd] at h hus <;> simp only at h <;> try exact .inr h
    rename_i e
    cases he : T e with
    | none => rw [he] at h; exact h.elim
    | some te =>
      rw [he] at h
      simp only at h
      have hue := hT.desc e te he
      split at h <;> try exact .inr h
      rename_i hk
      rw [hk] at hue
      cases hd : T dst with
      | none => rw [hd] at h; exact h.elim
      | some di =>
        rw [hd] at h
        simp only at h
        have hud := hT.desc dst di hd
        cases hdd : di.desc <;> rw [hdd] at h hud <;> (try simp only at h) <;> try exact .inr h
        obtain ⟨bs, rfl, hr, hp⟩ := h
        refine .inl ⟨_, ?_, hp⟩
        have hconv : ∀ x : Value, (convert src dst (.slice A bs.length c)).run P w = (Conv.bytesToString (.slice A bs.length c)).run P w := by
          intro _
          simp [convert, run_underlying hus, run_underlying hud, run_underlying hue]
        rw [hconv default]
        cases A with
        | none =>
          have : bs = [] := by
            cases bs with
            | nil => rfl
            | cons b r => obtain ⟨a, ha, _⟩ := hr 0 (bv b) rfl; cases ha
          subst this
          simp only [Conv.bytesToString, Sem.run_pure]
          rfl
        | some a =>
          have hl : (loadCells a bs.length).run P w = .ok ((bs.map fun b => (b.toNat : Int)).map (Value.int .u8)).toArray w := by
            have := row_loads (P := P) bs a 0 [] (fun j u hu => by
              obtain ⟨a', ha, hc⟩ := hr j u hu
              rw [Option.some.inj ha, Nat.zero_add]
              exact hc)
            unfold loadCells
            have e : (#[] : Array Value) = ([] : List Value).toArray := rfl
            rw [e, this]
            simp [bvs, bv, Function.comp_def]
          rw [run_bytesToString w a bs.length c _ hl, fold_push]
          congr 2

theorem evOp_sound (hT : TabOk P T F) {o : Oper} {fr : Fr} {w : World} {K : Fr → World → Prop} (h : evOp P T F o fr w K) : raw P o fr w K := by
  unfold evOp at h
  rcases evPure_sound (P := P) hT h with ⟨v, hv, hk⟩ | h
  · exact raw_value (hv w) hk
  cases ho : o.op <;> rw [ho] at h <;> (try simp only at h) <;> try exact h
  case load t a =>
    obtain ⟨v, hr, hk⟩ := evLoad_sound (P := P) (w := w) hT h
    exact raw_value (by simp [execOp, ho, hr]) hk
  case store t a v =>
    obtain ⟨w', hr, hk⟩ := evStore_sound (P := P) (w := w) hT h
    exact raw_skip (by simp [execOp, ho, hr]) hk
  case alloc e =>
    cases he : T e with
    | none => rw [he] at h; exact h.elim
    | some te =>
      rw [he] at h
      obtain ⟨z, hz, hzc⟩ := hT.zero e te he w
      refine raw_value ?_ h
      simp [execOp, ho, Instr.alloc, hz, newVar, newRow, hzc]
  case buildSlice t len parts =>
    rw [← map_toList_toArray] at h
    obtain ⟨v, w', hr, hk⟩ := evBuildSlice_sound (P := P) hT h
    exact raw_value (by simp [execOp, ho, hr]) hk
  case convert src dst x =>
    rcases evStrOf_sound (P := P) hT h with ⟨v, hr, hk⟩ | h
    · exact raw_value (by simp [execOp, ho, hr]) hk
    · exact h
  case box e x =>
    rw [force_eq] at h
    exact raw_value (by simp [execOp, ho, Instr.box, newVar, newRow]) h
  case call c =>
    cases hc : c.callee <;> rw [hc] at h <;> (try simp only at h) <;> try exact h
    exact evCall_sound hT ho hc h

theorem dst_ok {n : Nat} {o : Oper} (h : (match o.dst with
    | none => true
    | some d => Nat.blt d n) = true) : ∀ j, o.dst = some j → j < n := by
  intro j hj
  rw [hj] at h
  exact Nat.le_of_ble_eq_true h

theorem yield_of {D : List Deferred} {n : Nat} {ops : Array Oper} {fr : Fr} {a : Act} (hr : Rep D n fr a) {j d : Nat} (hd : gslot ops j = some d) (hdn : d < n) :
    yielded ops a.tmps j = (match fr d with
      | .bool b => some b
      | _ => none) := by
  unfold yielded
  unfold gslot at hd
  rw [hd]
  have : a.tmps[d]? = some (fr d) := by
    rw [← hr.read d, Array.getD_eq_getD_getElem?, Array.getElem?_eq_getElem (by rw [hr.size]; exact hdn)]
    rfl
  simp only [Option.bind_some, this]
  cases fr d <;> rfl

theorem evOps_sound (hT : TabOk P T F) {m : Nat} {r : Option Nat} {D : List Deferred} {n : Nat} {ops : Array Oper} {Q : Exit → Fr → World → Prop} (hall : ∀ o ∈ ops.toList, ∀ j, o.dst = some j → j < n) :
    ∀ (l : List Oper), (∀ o ∈ l, o ∈ ops.toList) → ∀ fr w, evOps P T F ops (Q .normal) l fr w → ∀ a, Rep D n fr a → wpListIn (fen r) m P ops (liftQ D n Q) l a w := by
  intro l
  induction l with
  | nil => exact fun _ fr w h a hr => ⟨fr, hr, h⟩
  | cons o rest ih =>
    intro hsub fr w h a hr
    have hdo := hall o (hsub o (List.mem_cons_self ..))
    have ih := ih (fun o ho => hsub o (List.mem_cons_of_mem _ ho))
    have step : ∀ fr a, Rep D n fr a → Region.wanted o (yielded ops a.tmps) = true → evOp P T F o fr w (fun fr w => evOps P T F ops (Q .normal) rest fr w) → wpListIn (fen r) m P ops (liftQ D n Q) (o :: rest) a w := by
      intro fr a hr hw h
      unfold wpListIn
      rw [if_pos hw]
      refine Oper.wpIn_mono ?_ (raw_wp hdo hr (evOp_sound hT h))
      rintro a' w' ⟨fr', hr', h'⟩
      exact ih fr' w' h' a' hr'
    have pass : ∀ fr a, Rep D n fr a → Region.wanted o (yielded ops a.tmps) = false → evOps P T F ops (Q .normal) rest (putF fr o.dst undef) w → wpListIn (fen r) m P ops (liftQ D n Q) (o :: rest) a w := by
      intro fr a hr hw h
      unfold wpListIn
      rw [if_neg (by simp [hw])]
      exact ⟨fun _ _ => trivial, ih _ w h _ (hr.put _ hdo _)⟩
    change evStep P T F ops o (fun fr w => evOps P T F ops (Q .normal) rest fr w) fr w at h
    unfold evStep at h
    cases hg : o.guard with
    | none =>
      rw [hg] at h
      exact step fr a hr (by simp [Region.wanted, hg]) h
    | some g =>
      obtain ⟨j, want⟩ := g
      rw [hg] at h
      simp only at h
      cases hs : gslot ops j with
      | none =>
        rw [hs] at h
        refine pass fr a hr ?_ h
        unfold gslot at hs
        simp [Region.wanted, hg, yielded, hs]
      | some d =>
        rw [hs] at h
        simp only at h
        have hdn : d < n := by
          unfold gslot at hs
          cases ho : ops[j]? with
          | none => rw [ho] at hs; simp at hs
          | some oj =>
            rw [ho] at hs
            exact hall oj (by have := Array.mem_of_getElem? ho; simpa using this) d (by simpa using hs)
        have hy := yield_of hr hs hdn
        cases hv : fr d <;> rw [hv] at h hy <;> (try simp only at h) <;> (try simp only at hy)
        case bool b =>
          have e : ∀ t, b = t → Rep D n (upd fr d (.bool t)) a := by
            rintro t rfl
            rw [← upd_self hv]
            exact hr
          cases want <;> cases b
          · exact step _ a (e _ rfl) (by simp [Region.wanted, hg, hy]) h
          · exact pass _ a (e _ rfl) (by simp [Region.wanted, hg, hy]) h
          · exact pass _ a (e _ rfl) (by simp [Region.wanted, hg, hy]) h
          · exact step _ a (e _ rfl) (by simp [Region.wanted, hg, hy]) h
        all_goals exact pass fr a hr (by simp [Region.wanted, hg, hy]) h

theorem liftQ_then {D : List Deferred} {n : Nat} {K : Fr → World → Prop} {next : Act → World → Prop} {Q : Exit → Fr → World → Prop} {e : Exit} {a : Act} {w : World} (hn : ∀ fr, Rep D n fr a → K fr w → next a w)
    (h : liftQ D n (thenF K Q) e a w) : Exit.then next (liftQ D n Q) e a w := by
  obtain ⟨fr, hr, h⟩ := h
  cases e <;> first
    | exact hn fr hr h
    | exact ⟨fr, hr, h⟩

theorem wpIn_loop_ghost {Φ : Fence} {n : Nat} {P : Program} {c : Code} {Q : Exit → Act → World → Prop} {a : Act} {w : World} (I : Nat → Act → World → Prop) (m : Nat) (h₀ : I m a w)
    (round : ∀ m a w, I m a w → c.wpIn Φ n P (Exit.then (fun a' w' => ∃ m', m' < m ∧ I m' a' w') Q) a w) : (Code.loop c).wpIn Φ n P Q a w := by
  intro b k cs hro hb hr
  have key : ∀ j a w, I j a w → ∃ e a' w', Q e a' w' ∧ ArrivesIn (Machine.fenced P Φ) P (lone (b.atR a (.code c :: .inLoop c :: k)) cs w) b k cs e a' w' := by
    intro j
    induction j using Nat.strongRecOn with
    | _ j ih =>
      intro a w hI
      obtain ⟨e, a₁, w₁, hq, harr⟩ := round j a w hI b (.inLoop c :: k) cs hro hb hr
      cases e with
      | normal =>
        obtain ⟨j', hlt, hI₁⟩ := hq
        obtain ⟨e₂, a₂, w₂, hq₂, harr₂⟩ := ih j' hlt a₁ w₁ hI₁
        exact ⟨e₂, a₂, w₂, hq₂, .of_steps (StepsIn.trans harr (.one (fenced_calm hb hr rfl) stepR_inLoop)) harr₂⟩
      | exit id => exact ⟨_, a₁, w₁, hq, .pass (x := .inLoop c) rfl (fun _ _ => .inl (by simp)) harr⟩
      | goto l => exact ⟨_, a₁, w₁, hq, .pass (x := .inLoop c) rfl (fun _ _ => .inl (by simp)) harr⟩
      | ret => exact ⟨_, a₁, w₁, hq, .pass (x := .inLoop c) rfl (fun _ _ => .inl (by simp)) harr⟩
      | panic ch => exact ⟨_, a₁, w₁, hq, .pass (x := .inLoop c) rfl (fun _ _ => .inl (by simp)) harr⟩
      | outgrown => exact ⟨_, a₁, w₁, hq, .pass (x := .inLoop c) rfl (fun _ _ => .inl (by simp)) harr⟩
  obtain ⟨e, a', w', hq, harr⟩ := key m a w h₀
  exact ⟨e, a', w', hq, .of_steps (.one (fenced_calm hb hr rfl) stepR_loop) harr⟩

theorem den_sound (hT : TabOk P T F) {mm : Nat} {r : Option Nat} {D : List Deferred} {n : Nat} : ∀ (c : Code) (Q : Exit → Fr → World → Prop) (fr : Fr) (w : World), codeOk n c = true → den P T F n c Q fr w → ∀ a, Rep D n fr a → c.wpIn (fen r) mm P (liftQ D n Q) a w := by
  intro c
  induction c with
  | skip => exact fun Q fr w _ h a hr => wpIn_skip ⟨fr, hr, h⟩
  | label l => exact fun Q fr w _ h a hr => wpIn_label ⟨fr, hr, h⟩
  | exit id => exact fun Q fr w _ h a hr => wpIn_exit ⟨fr, hr, h⟩
  | ret => exact fun Q fr w _ h a hr => wpIn_ret ⟨fr, hr, h⟩
  | region id ops draw =>
    intro Q fr w hc h a hr
    cases draw with
    | true => exact h mm r D a hr
    | false =>
      refine wpIn_region_list (evOps_sound hT ?_ _ (fun _ h => h) fr w h a hr)
      intro o ho
      have := List.all_eq_true.mp hc o ho
      exact dst_ok this
  | seq x y ihx ihy =>
    intro Q fr w hc h a hr
    simp only [codeOk, Bool.and_eq_true] at hc
    refine wpIn_seq (wpIn_mono (ihx _ fr w hc.1 h a hr) ?_)
    intro e a' w' hq
    exact liftQ_then (fun fr' hr' hk => ihy Q fr' w' hc.2 hk a' hr') hq
  | cond c x y ihx ihy =>
    intro Q fr w hc h a hr
    simp only [codeOk, Bool.and_eq_true] at hc
    unfold den at h
    cases hb : ev fr c <;> rw [hb] at h <;> try exact h.elim
    rename_i b
    refine wpIn_cond_split (t := b) (by rw [hr.eval]; exact hb) ?_ ?_
    · rintro rfl; exact ihx Q fr w hc.1 h a hr
    · rintro rfl; exact ihy Q fr w hc.2 h a hr
  | block id c ih =>
    intro Q fr w hc h a hr
    refine wpIn_block (wpIn_mono (ih _ fr w hc h a hr) ?_)
    rintro e a' w' ⟨fr', hr', hq⟩
    cases e <;> try exact ⟨fr', hr', hq⟩
    rename_i j
    simp only [blockF] at hq
    simp only [Exit.inBlock]
    split
    · rename_i hj
      subst hj
      rw [Nat.beq_refl] at hq
      exact ⟨fr', hr', hq⟩
    · rename_i hj
      have : Nat.beq j id = false := by
        cases hb : Nat.beq j id with
        | false => rfl
        | true => exact absurd (Nat.eq_of_beq_eq_true hb) hj
      rw [this] at hq
      exact ⟨fr', hr', hq⟩
  | loop c ih =>
    intro Q fr w hc h a hr
    obtain ⟨I, m, h0, hround⟩ := h
    refine wpIn_loop_ghost (fun m a w => ∃ fr, Rep D n fr a ∧ I m fr w) m ⟨fr, hr, h0⟩ ?_
    rintro m a w ⟨fr, hr, hI⟩
    refine wpIn_mono (ih _ fr w hc (hround m fr w hI) a hr) ?_
    intro e a' w' hq
    refine liftQ_then ?_ hq
    rintro fr' hr' ⟨m', hm, hI'⟩
    exact ⟨m', hm, fr', hr', hI'⟩
  | rangeFunc f ps as b => exact fun Q fr w _ h a hr => h mm r D a hr
  | scope c => exact fun Q fr w _ h a hr => h mm r D a hr
  | goto l => exact fun Q fr w _ h a hr => h mm r D a hr
  | refuse s => exact fun Q fr w _ h a hr => h mm r D a hr

/-! ### Loops and joints -/
def upds (fr : Fr) : List (Nat × Value) → Fr
  | [] => fr
  | p :: r => upds (upd fr p.1 p.2) r
def Slots (fr : Fr) : List (Nat × Value) → Prop
  | [] => True
  | p :: r => fr p.1 = p.2 ∧ Slots fr r
theorem upds_self {fr : Fr} : ∀ {L : List (Nat × Value)}, Slots fr L → fr = upds fr L
  | [], _ => rfl
  | p :: r, h => by
    unfold upds
    rw [← upd_self h.1]
    exact upds_self h.2
theorem den_loop {σ : Type} {n : Nat} {c : Code} {Q : Exit → Fr → World → Prop} {fr : Fr} {w : World} (L : σ → List (Nat × Value)) (J : Nat → σ → World → Prop) (m : Nat) (s : σ)
    (h0 : Slots fr (L s)) (hJ : J m s w)
    (round : ∀ m s w fr0, J m s w → den P T F n c (thenF (fun fr' w' => ∃ m' s', m' < m ∧ Slots fr' (L s') ∧ J m' s' w') Q) (upds fr0 (L s)) w) : den P T F n (.loop c) Q fr w := by
  refine ⟨fun m fr w => ∃ s, Slots fr (L s) ∧ J m s w, m, ⟨s, h0, hJ⟩, ?_⟩
  rintro m fr w ⟨s, hs, hJ⟩
  have := round m s w fr hJ
  rw [← upds_self hs] at this
  have e : (fun (fr' : Fr) (w' : World) => ∃ m' s', m' < m ∧ Slots fr' (L s') ∧ J m' s' w') = fun fr' w' => ∃ m', m' < m ∧ ∃ s', Slots fr' (L s') ∧ J m' s' w' := by
    funext fr' w'
    apply propext
    constructor
    · rintro ⟨m', s', h1, h2⟩; exact ⟨m', h1, s', h2⟩
    · rintro ⟨m', h1, s', h2⟩; exact ⟨m', s', h1, h2⟩
  rw [e] at this
  exact this
/-- What comes behind is proved once, at the slots that are named. -/
theorem seq_cut {σ : Type} {n : Nat} {a b : Code} {Q : Exit → Fr → World → Prop} {fr : Fr} {w : World} (L : σ → List (Nat × Value)) (J : σ → World → Prop)
    (h2 : ∀ s w fr0, J s w → den P T F n b Q (upds fr0 (L s)) w) (h1 : ∀ K : Fr → World → Prop, (∀ s fr' w', Slots fr' (L s) → J s w' → K fr' w') → den P T F n a (thenF K Q) fr w) : den P T F n (.seq a b) Q fr w :=
  h1 _ fun s fr' w' hs hj => by rw [upds_self hs]; exact h2 s w' fr' hj
theorem seq_assign {n id : Nat} {b : Code} {Q : Exit → Fr → World → Prop} {fr : Fr} {w : World} {d ty : Nat} {v : Value} {pos : String} {after : Array Edge}
    (h : den P T F n b Q (upd fr d v) w) : den P T F n (.seq (.region id #[⟨some d, .assign (.const v), ty, pos, after, none⟩] false) b) Q fr w := by
  have e : force v (fun v => den P T F n b Q (upd fr d v) w) := force_ h
  exact e
theorem some_at {p : Option Addr} {a : Addr} {f : Addr → Prop} (h : p = some a) (k : f a) : withSome p f := by subst h; exact k
theorem if_ {b : Bool} {A B : Prop} (h : b = true → A) (k : b = false → B) : condB b A B := by cases b <;> first
  | exact h rfl
  | exact k rfl
theorem if_p {p : Prop} [Decidable p] {A B : Prop} (h : p → A) (k : ¬ p → B) : condB (decide p) A B := by
  by_cases hp : p
  · rw [decide_eq_true hp]; exact h hp
  · rw [decide_eq_false hp]; exact k hp
theorem if_n {p : Prop} [Decidable p] {A B : Prop} (h : ¬ p → A) (k : p → B) : condB (!decide p) A B := by
  by_cases hp : p
  · rw [decide_eq_true hp]; exact k hp
  · rw [decide_eq_false hp]; exact h hp
theorem if_yes {b : Bool} {A B : Prop} (hb : b = true) (h : A) : condB b A B := by subst hb; exact h
theorem if_no {b : Bool} {A B : Prop} (hb : b = false) (h : B) : condB b A B := by subst hb; exact h
/-- A call by its contract. -/
theorem call_ {P : Program} {g : FuncId} {args : List Value} {w : World} {R : Ending → World → Prop} {K : Value → World → Prop} (h : Calls P g args.toArray w R)
    (k : ∀ e w', R e w' → ∃ v, e = .returned v ∧ K v w') : callQ P g args w K := h.mono k

/-! ### A call -/
def retQ (T : Tab) (fr : Fr) (w : World) : List ResultVar → List Value → (List Value → Prop) → Prop
  | [], acc, K => K acc
  | .tmp t :: r, acc, K => retQ T fr w r (acc ++ [fr t]) K
  | .cell x t :: r, acc, K => evLoad T t (fr x) w fun v => retQ T fr w r (acc ++ [v]) K
def packV : List Value → Value
  | [v] => v
  | vs => .tuple vs.toArray
def postF (T : Tab) (rs : List ResultVar) (R : Ending → World → Prop) (e : Exit) (fr : Fr) (w : World) : Prop := match e with
  | .normal => retQ T fr w rs [] fun vs => R (.returned (packV vs)) w
  | .ret => retQ T fr w rs [] fun vs => R (.returned (packV vs)) w
  | _ => False
def frOf : List Value → Nat → Value
  | [], _ => undef
  | v :: _, 0 => v
  | _ :: r, i + 1 => frOf r i

theorem mapM_run (hT : TabOk P T F) {D : List Deferred} {n : Nat} {fr : Fr} {a : Act} (hr : Rep D n fr a) {w : World} : ∀ (rs : List ResultVar) (acc : List Value) {K : List Value → Prop}, retQ T fr w rs acc K →
    ∃ vs, (rs.mapM (m := Sem) fun
      | .tmp t => pure (a.tmps.getD t undef)
      | .cell x t => do loadVar t (← asAddr (a.tmps.getD x undef))).run P w = .ok vs w ∧ K (acc ++ vs)
  | [], acc, K, h => ⟨[], rfl, by rw [List.append_nil]; exact h⟩
  | .tmp t :: r, acc, K, h => by
    obtain ⟨vs, hv, hk⟩ := mapM_run hT hr r _ h
    refine ⟨fr t :: vs, ?_, by simpa using hk⟩
    simp only [List.mapM_cons, Sem.run_bind, Sem.run_pure, Result.andThen_ok, hr.read t]
    rw [hv]
    rfl
  | .cell x t :: r, acc, K, h => by
    obtain ⟨v, hl, h⟩ := evLoad_sound (P := P) hT h
    obtain ⟨vs, hv, hk⟩ := mapM_run hT hr r _ h
    refine ⟨v :: vs, ?_, by simpa using hk⟩
    simp only [List.mapM_cons, Sem.run_bind, hr.read x]
    have : (do loadVar t (← asAddr (fr x)) : Sem Value).run P w = .ok v w := by
      have hl' := hl
      simp only [Instr.loadAt, Sem.run_bind] at hl' ⊢
      cases hx : fr x <;> rw [hx] at hl' <;> simp [Instr.sureAddr] at hl'
      rename_i p
      cases p <;> simp at hl'
      simpa [asAddr] using hl'
    simp only [Sem.run_bind] at this
    rw [this]
    simp only [Result.andThen_ok]
    rw [hv]
    rfl

theorem enter (hT : TabOk P T F) {f : FuncId} {fn : Func} {c : Code} {args : List Value} {w : World} {R : Ending → World → Prop} (hf : P.funcs[f]? = some fn) (hb : fn.body = some c)
    (hn : Nat.ble args.length fn.ntmps = true) (hok : codeOk fn.ntmps c = true) (h : den P T F fn.ntmps c (postF T fn.results.toList R) (frOf args) w) : Calls P f args.toArray w R := by
  have hn := Nat.le_of_ble_eq_true hn
  refine callsIn_wide (n := 0).1 (callsIn_of_wp hf hb trivial (wpIn_mono (den_sound (mm := 0) (r := none) (D := []) hT c _ _ w hok h _ ?_) ?_))
  · refine ⟨rfl, by simp; omega, ?_⟩
    intro i
    have hfr : ∀ (l : List Value) i, frOf l i = l.getD i undef := by
      intro l
      induction l with
      | nil => intro i; rfl
      | cons v r ih => intro i; cases i with
        | zero => rfl
        | succ i => simpa [frOf] using ih i
    rw [hfr]
    simp only [Array.getD_eq_getD_getElem?, List.getD_eq_getElem?_getD, Array.getElem?_append]
    split
    · simp
    · rename_i hlt
      simp only [List.size_toArray, Nat.not_lt] at hlt
      rw [List.getElem?_eq_none hlt]
      simp only [Array.getElem?_replicate, Option.getD_none]
      split <;> rfl
  · rintro e a' w' ⟨fr, hr, hq⟩
    have fin : retQ T fr w' fn.results.toList [] (fun vs => R (.returned (packV vs)) w') → a'.defers = [] ∧ ∃ v, (results fn a'.tmps).run P w' = .ok v w' ∧ R (.returned v) w' := by
      intro h
      obtain ⟨vs, hv, hk⟩ := mapM_run (P := P) hT hr _ _ h
      refine ⟨hr.defers, packV vs, ?_, by simpa using hk⟩
      unfold results
      rw [Array.mapM_eq_mapM_toList]
      simp only [Sem.run_bind, Sem.run_map]
      refine (congrArg (fun r : Result (List Value) => (r.andThen fun a w' => Result.ok a.toArray w').andThen fun a w' => Sem.run P (pure (if h : a.size = 1 then a[0] else Value.tuple a)) w') hv).trans ?_
      simp only [Result.andThen_ok, Sem.run_pure]
      congr 1
      match vs with
      | [] => rfl
      | [v] => rfl
      | v :: u :: r => simp [packV]
    cases e <;> first
      | exact fin hq
      | exact hq.elim
end sound
end Go.Proofs.YtdcaafldnbcdkaaGreatDoor.Eng

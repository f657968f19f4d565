/- The library of this work, part 1: an evaluator of annotated code, and that what it answers is what the machine does. No conditions. -/
import Derived.Calls
import GoSem.ClaimData
import Derived.KernelRfl
import Derived.Laws.Append
import Derived.Laws.CopyRow
import Derived.Lib.FrozenHead
import Derived.Laws.Entries
import Derived.Laws.Strings
import Derived.Laws.Cover1
import Derived.Laws.StructEq
import Derived.Laws.Cells
set_option linter.unusedVariables false
set_option linter.unusedSimpArgs false
set_option linter.unnecessarySimpa false
namespace Go.Proofs.Bw
open Go

abbrev Tag := List Nat

inductive Nm where
  | U | N | S

inductive Ty where
  | int (k : IntKind)
  | bool
  | str
  | unit
  | pair (a b : Ty)
  | arr (n : Nat) (e : Ty)
  | slB (z : Nm) (cl : Bool) (e : Ty)
  | slX (z : Nm) (e : Ty)
  | slV (z : Nm) (t : Tag) (e : Ty)
  | box (e : Ty)
  | opt (e : Ty)
  | ptr (t : Tag) (off str n : Nat) (path : Tag)
  | cref (e : Ty)
  | vref (t : Tag) (e : Ty)
  | fn (f : FuncId) (caps : Ty)
  | ifc (t : TypeId) (e : Ty)
  | tup (a : Ty)
  | nil (k : Nat)
  | map (k v : Ty)
  | any
  | slA (z : Nm) (t : Tag) (e : Ty)      -- the header of the slice that lies at t
  | eref (t : Tag) (e : Ty) (off : Nat) (p : Tag)      -- a place in an element of it
  | oref (e : Ty)                         -- a look at cells that stay as they are, or nil
  | siter                                 -- where a range over a string stands
  | mref (t : Tag)                        -- the map that lies at t
  | fnp (f : FuncId) (t : Tag)            -- a function value that has caught a pointer to what lies at t, and nothing else
  | slT (t : Tag) (e : Ty)                -- a stretch of the slice that lies at t: from where, how long
  | nb (neg : Bool)                       -- was an empty slice held against nil? true: who knows

def Ty.den : Ty → Type
  | .int _ => Int
  | .bool => Bool
  | .str => List Int
  | .unit => Unit
  | .pair a b => a.den × b.den
  | .arr _ e => List e.den
  | .slB _ _ e => List e.den
  | .slX _ e => List e.den
  | .slV _ _ e => List e.den
  | .box e => e.den
  | .opt e => Option e.den
  | .ptr _ _ _ _ _ => Int
  | .cref e => e.den
  | .vref _ e => e.den
  | .fn _ c => c.den
  | .ifc _ e => e.den
  | .tup a => a.den
  | .nil _ => Unit
  | .map k v => List (k.den × v.den)
  | .any => Unit
  | .slA _ _ e => List e.den
  | .eref _ _ _ _ => Int
  | .oref e => Option e.den
  | .siter => List Int × Int
  | .mref _ => Unit
  | .fnp _ _ => Unit
  | .slT _ _ => Int × Int
  | .nb _ => Bool

def kn : IntKind → Nat
  | .i8 => 0 | .i16 => 1 | .i32 => 2 | .i64 => 3 | .u8 => 4 | .u16 => 5 | .u32 => 6 | .u64 => 7
def nn : Nm → Nat
  | .U => 0 | .N => 1 | .S => 2
def tbeq : Tag → Tag → Bool
  | [], [] => true
  | a :: x, b :: y => Nat.beq a b && tbeq x y
  | _, _ => false
def bbeq : Bool → Bool → Bool
  | true, b => b
  | false, b => !b

def Ty.beq : Ty → Ty → Bool
  | .int a, .int b => Nat.beq (kn a) (kn b)
  | .bool, .bool => true
  | .str, .str => true
  | .unit, .unit => true
  | .pair a b, .pair c d => a.beq c && b.beq d
  | .arr n a, .arr m b => Nat.beq n m && a.beq b
  | .slB z c a, .slB y d b => Nat.beq (nn z) (nn y) && bbeq c d && a.beq b
  | .slX z a, .slX y b => Nat.beq (nn z) (nn y) && a.beq b
  | .slV z t a, .slV y u b => Nat.beq (nn z) (nn y) && tbeq t u && a.beq b
  | .box a, .box b => a.beq b
  | .opt a, .opt b => a.beq b
  | .ptr t o s n p, .ptr u q r m w => tbeq t u && Nat.beq o q && Nat.beq s r && Nat.beq n m && tbeq p w
  | .cref a, .cref b => a.beq b
  | .vref t a, .vref u b => tbeq t u && a.beq b
  | .fn f a, .fn g b => Nat.beq f g && a.beq b
  | .ifc t a, .ifc u b => Nat.beq t u && a.beq b
  | .tup a, .tup b => a.beq b
  | .nil a, .nil b => Nat.beq a b
  | .map a b, .map c d => a.beq c && b.beq d
  | .any, .any => true
  | .slA z t a, .slA y u b => Nat.beq (nn z) (nn y) && tbeq t u && a.beq b
  | .eref t a o p, .eref u b q r => tbeq t u && a.beq b && Nat.beq o q && tbeq p r
  | .oref a, .oref b => a.beq b
  | .siter, .siter => true
  | .mref t, .mref u => tbeq t u
  | .fnp f t, .fnp g u => Nat.beq f g && tbeq t u
  | .slT t a, .slT u b => tbeq t u && a.beq b
  | .nb a, .nb b => bbeq a b
  | _, _ => false

theorem kn_inj {a b : IntKind} (h : kn a = kn b) : a = b := by cases a <;> cases b <;> simp [kn] at h <;> rfl
theorem nn_inj {a b : Nm} (h : nn a = nn b) : a = b := by cases a <;> cases b <;> simp [nn] at h <;> rfl
theorem tbeq_eq : ∀ {a b : Tag}, tbeq a b = true → a = b
  | [], [], _ => rfl
  | [], _ :: _, h => by simp [tbeq] at h
  | _ :: _, [], h => by simp [tbeq] at h
  | a :: x, b :: y, h => by
    simp only [tbeq, Bool.and_eq_true] at h
    rw [Nat.eq_of_beq_eq_true h.1, tbeq_eq h.2]
theorem bbeq_eq {a b : Bool} (h : bbeq a b = true) : a = b := by cases a <;> cases b <;> simp [bbeq] at h <;> rfl

theorem Ty.eq_of_beq : ∀ {a b : Ty}, a.beq b = true → a = b := by
  intro a
  induction a with
  | int k => intro b h; cases b <;> simp [Ty.beq] at h; rw [kn_inj h]
  | bool => intro b h; cases b <;> simp [Ty.beq] at h; rfl
  | str => intro b h; cases b <;> simp [Ty.beq] at h; rfl
  | unit => intro b h; cases b <;> simp [Ty.beq] at h; rfl
  | any => intro b h; cases b <;> simp [Ty.beq] at h; rfl
  | pair a b iha ihb => intro c h; cases c <;> simp [Ty.beq] at h; rw [iha h.1, ihb h.2]
  | map a b iha ihb => intro c h; cases c <;> simp [Ty.beq] at h; rw [iha h.1, ihb h.2]
  | arr n a ih => intro c h; cases c <;> simp [Ty.beq] at h; rw [h.1, ih h.2]
  | slB z c a ih => intro b h; cases b <;> simp [Ty.beq] at h; rw [nn_inj h.1.1, bbeq_eq h.1.2, ih h.2]
  | slX z a ih => intro b h; cases b <;> simp [Ty.beq] at h; rw [nn_inj h.1, ih h.2]
  | slV z t a ih => intro b h; cases b <;> simp [Ty.beq] at h; rw [nn_inj h.1.1, tbeq_eq h.1.2, ih h.2]
  | box a ih => intro b h; cases b <;> simp [Ty.beq] at h; rw [ih h]
  | opt a ih => intro b h; cases b <;> simp [Ty.beq] at h; rw [ih h]
  | ptr t o s n p => intro b h; cases b <;> simp [Ty.beq] at h; rw [tbeq_eq h.1.1.1.1, h.1.1.1.2, h.1.1.2, h.1.2, tbeq_eq h.2]
  | cref a ih => intro b h; cases b <;> simp [Ty.beq] at h; rw [ih h]
  | vref t a ih => intro b h; cases b <;> simp [Ty.beq] at h; rw [tbeq_eq h.1, ih h.2]
  | fn f a ih => intro b h; cases b <;> simp [Ty.beq] at h; rw [h.1, ih h.2]
  | ifc f a ih => intro b h; cases b <;> simp [Ty.beq] at h; rw [h.1, ih h.2]
  | tup a ih => intro b h; cases b <;> simp [Ty.beq] at h; rw [ih h]
  | nil k => intro b h; cases b <;> simp [Ty.beq] at h; rw [h]
  | slA z t a ih => intro b h; cases b <;> simp [Ty.beq] at h; rw [nn_inj h.1.1, tbeq_eq h.1.2, ih h.2]
  | eref t a o p ih => intro b h; cases b <;> simp [Ty.beq] at h; rw [tbeq_eq h.1.1.1, ih h.1.1.2, h.1.2, tbeq_eq h.2]
  | oref a ih => intro b h; cases b <;> simp [Ty.beq] at h; rw [ih h]
  | siter => intro b h; cases b <;> simp [Ty.beq] at h; rfl
  | mref t => intro b h; cases b <;> simp [Ty.beq] at h; rw [tbeq_eq h]
  | fnp f t => intro b h; cases b <;> simp [Ty.beq] at h; rw [h.1, tbeq_eq h.2]
  | slT t a ih => intro b h; cases b <;> simp [Ty.beq] at h; rw [tbeq_eq h.1, ih h.2]
  | nb k => intro b h; cases b <;> simp [Ty.beq] at h; rw [bbeq_eq h]

def Ty.cast {a b : Ty} (h : a.beq b = true) (x : a.den) : b.den := (Ty.eq_of_beq h) ▸ x

def Ty.agg : Ty → Bool
  | .unit | .pair _ _ | .arr _ _ => true
  | _ => false
def Ty.solid : Ty → Bool
  | .any => false
  | _ => true
/-- each cell holds the value of one cell -/
def Ty.hard : Ty → Bool
  | .any => false
  | .nil k => Nat.ble k 4
  | .tup _ => false
  | .pair a b => a.hard && b.hard
  | .arr _ e => e.hard
  | _ => true
def Ty.size : Ty → Nat
  | .unit => 0
  | .pair a b => a.size + b.size
  | .arr n e => n * e.size
  | _ => 1
/-- no block is owned, none is looked at: a copy is as good as the value -/
def Ty.pure : Ty → Bool
  | .int _ | .bool | .str | .unit | .nb _ => true
  | .nil k => Nat.ble k 4
  | .pair a b => a.pure && b.pure
  | .arr _ e => e.pure
  | .slB _ _ e => e.pure
  | .cref e => e.pure
  | .oref e => e.pure
  | .fn _ c => c.pure
  | .ifc _ e => e.pure
  | _ => false
/-- owned blocks may be in it, but no look at others -/
def Ty.closed : Ty → Bool
  | .int _ | .bool | .str | .unit | .nil _ | .nb _ => true
  | .pair a b => a.closed && b.closed
  | .arr _ e => e.pure
  | .slB _ _ e => e.pure
  | .slX _ e => e.pure
  | .box e => e.closed
  | .opt e => e.closed
  | .cref e => e.pure
  | .oref e => e.pure
  | .fn _ c => c.closed
  | .ifc _ e => e.closed
  | .tup a => a.closed
  | .map k v => k.pure && v.pure
  | .siter => true
  | .any => true
  | _ => false
/-- nothing in it looks at cells that are shared -/
def Ty.free : Ty → Bool
  | .int _ | .bool | .str | .unit | .nil _ | .nb _ => true
  | .pair a b => a.free && b.free
  | .arr _ e => e.free
  | .slX _ e => e.free
  | .box e => e.free
  | .opt e => e.free
  | .fn _ c => c.free
  | .ifc _ e => e.free
  | .tup a => a.free
  | .map k v => k.free && v.free
  | .siter => true
  | .any => true
  | _ => false

/-- cells that stay as they are -/
abbrev Sg := Nat → Nat → Option Value
inductive Blk where
  | cells (cs : List Value) (t : Tag)      -- what a pointer points at
  | row (cs : List Value) (t : Tag)        -- a slice's elements
  | obj (o : Obj) (t : Tag)
def Blk.tag : Blk → Tag
  | .cells _ t => t
  | .row _ t => t
  | .obj _ t => t
def Blk.withTag : Blk → Tag → Blk
  | .cells cs _, t => .cells cs t
  | .row cs _, t => .row cs t
  | .obj o _, t => .obj o t
/-- blocks that are owned -/
abbrev Hp := Nat → Option Blk

def EList {α : Type} (R : α → List Value → Prop) : List α → List Value → Prop
  | [], cs => cs = []
  | x :: xs, cs => ∃ c d, cs = c ++ d ∧ R x c ∧ EList R xs d

def EMap {α β : Type} (R : α → Value → Prop) (S : β → Value → Prop) : List (α × β) → List MapEntry → Prop
  | [], es => es = []
  | x :: xs, es => ∃ e r, es = e :: r ∧ R x.1 e.key ∧ S x.2 e.val ∧ EMap R S xs r
def inK (k : IntKind) (x : Int) : Prop := k.min ≤ x ∧ x ≤ k.max

def SlOk (z : Nm) (a : Option Addr) (len cap : Nat) : Prop :=
  len ≤ cap ∧ (a = none → cap = 0) ∧ cap ≤ maxLen ∧ (match z with | .U => True | .N => (a = none ↔ len = 0) | .S => a ≠ none)

/-- a value and its cells -/
def wr : Bool → Value → List Value → Prop
  | true, v, c => v = .agg ⟨c⟩
  | false, v, c => c = [v]

def nilVal : Nat → Value
  | 0 => .slice none 0 0
  | 1 => .pointer none
  | 2 => .nilFunc
  | 3 => .nilIface
  | 4 => .map none
  | _ => undef

def ints (s : ByteArray) : List Int := s.data.toList.map fun b => (b.toNat : Int)

section
variable (σ : Sg) (h : Hp)
def Rel : (T : Ty) → Bool → T.den → List Value → Tag → Prop
  | .int k, _, x, cs, _ => cs = [.int k x] ∧ inK k x
  | .bool, _, x, cs, _ => cs = [.bool x]
  | .str, _, x, cs, _ => ∃ s : ByteArray, cs = [.string s] ∧ ints s = x ∧ s.size ≤ maxLen
  | .unit, _, _, cs, _ => cs = []
  | .pair a b, false, x, cs, t => ∃ c d, cs = c ++ d ∧ Rel a false x.1 c (t ++ [1]) ∧ Rel b false x.2 d (t ++ [2])
  | .pair a b, true, x, cs, t => ∃ v d, cs = v :: d ∧ (∃ c, wr a.agg v c ∧ Rel a false x.1 c (t ++ [1])) ∧ Rel b true x.2 d (t ++ [2])
  | .arr n e, _, x, cs, t => List.length (α := e.den) x = n ∧ EList (fun y c => Rel e false y c (t ++ [3])) x cs
  | .slB z cl e, _, x, cs, t => ∃ a len cap, cs = [.slice a len cap] ∧ SlOk z a len cap ∧ len = List.length (α := e.den) x ∧ (cl = true → cap = len) ∧
      ∃ d, EList (fun y c => Rel e false y c (t ++ [3])) x d ∧ (d ≠ [] → ∃ b off, a = some ⟨b, off, none⟩ ∧ ∀ j v, d[j]? = some v → σ b (off + j) = some v)
  | .slX z e, _, x, cs, t => ∃ a len cap, cs = [.slice a len cap] ∧ SlOk z a len cap ∧ len = List.length (α := e.den) x ∧
      (cap = 0 ∨ ∃ b ch, a = some ⟨b, 0, none⟩ ∧ h b = some (.row ch t) ∧ ch.length = cap * e.size ∧ EList (fun y c => Rel e false y c (t ++ [3])) x (ch.take (len * e.size)))
  | .slV z u e, _, x, cs, t => ∃ a len cap, cs = [.slice a len cap] ∧ SlOk z a len cap ∧ len = List.length (α := e.den) x ∧
      (len = 0 ∨ ∃ b off ch, a = some ⟨b, off, none⟩ ∧ h b = some (.row ch u) ∧ off + len * e.size ≤ ch.length ∧ EList (fun y c => Rel e false y c (t ++ [3])) x ((ch.drop off).take (len * e.size)))
  | .box e, _, x, cs, t => ∃ b ch, cs = [.pointer (some ⟨b, 0, none⟩)] ∧ h b = some (.cells ch t) ∧ Rel e false x ch (t ++ [0])
  | .opt _, _, none, cs, _ => cs = [.pointer none]
  | .opt e, _, some x, cs, t => ∃ b ch, cs = [.pointer (some ⟨b, 0, none⟩)] ∧ h b = some (.cells ch t) ∧ Rel e false x ch (t ++ [0])
  | .ptr u off str n _, _, x, cs, _ => ∃ b ch, cs = [.pointer (some ⟨b, off + str * Int.toNat x, none⟩)] ∧ h b = some (.cells ch u) ∧ Int.toNat x < n
  | .cref e, _, x, cs, t => ∃ b off, cs = [.pointer (some ⟨b, off, none⟩)] ∧ ∃ d, Rel e false x d (t ++ [3]) ∧ ∀ j v, d[j]? = some v → σ b (off + j) = some v
  | .oref _, _, none, cs, _ => cs = [.pointer none]
  | .oref e, _, some x, cs, t => ∃ b off, cs = [.pointer (some ⟨b, off, none⟩)] ∧ ∃ d, Rel e false x d (t ++ [3]) ∧ ∀ j v, d[j]? = some v → σ b (off + j) = some v
  | .vref u e, _, x, cs, t => ∃ b off ch, cs = [.pointer (some ⟨b, off, none⟩)] ∧ h b = some (.row ch u) ∧ off + e.size ≤ ch.length ∧ Rel e false x ((ch.drop off).take e.size) (t ++ [3])
  | .fn f c, _, x, cs, t => ∃ vs, cs = [.func (.func f) #[] ⟨vs⟩] ∧ Rel c true x vs (t ++ [4])
  | .ifc u e, _, x, cs, t => ∃ v c, cs = [.iface u v] ∧ wr e.agg v c ∧ Rel e false x c (t ++ [5])
  | .tup a, _, x, cs, t => ∃ vs, cs = [.tuple ⟨vs⟩] ∧ Rel a true x vs (t ++ [6])
  | .nil k, _, _, cs, _ => cs = [nilVal k]
  | .map k v, _, x, cs, t => ∃ b es clock, cs = [.map (some b)] ∧ h b = some (.obj (.map ⟨es⟩ clock) t) ∧
      EMap (fun y w => ∃ c, wr k.agg w c ∧ Rel k false y c (t ++ [7])) (fun y w => ∃ c, wr v.agg w c ∧ Rel v false y c (t ++ [8])) x es
  | .any, _, _, cs, _ => ∃ v, cs = [v]
  | .siter, _, x, cs, t => ∃ (b : Nat) (s : ByteArray), cs = [.pointer (some ⟨b, 0, none⟩)] ∧ h b = some (.obj (.stringIter s x.2.toNat) t) ∧ ints s = x.1 ∧ 0 ≤ x.2 ∧ s.size ≤ maxLen
  | .mref u, _, _, cs, _ => ∃ b es clock, cs = [.map (some b)] ∧ h b = some (.obj (.map es clock) u)
  | .fnp f u, _, _, cs, _ => ∃ b ch, cs = [.func (.func f) #[] ⟨[.pointer (some ⟨b, 0, none⟩)]⟩] ∧ h b = some (.cells ch u)
  | .slT u e, _, x, cs, _ => ∃ a cap, cs = [.slice a x.2.toNat cap] ∧ 0 ≤ x.1 ∧ 0 ≤ x.2 ∧
      (x.2 = 0 ∨ ∃ b ch, a = some ⟨b, x.1.toNat * e.size, none⟩ ∧ h b = some (.row ch u) ∧ (x.1.toNat + x.2.toNat) * e.size ≤ ch.length)
  | .slA z u e, _, x, cs, t => ∃ a len cap, cs = [.slice a len cap] ∧ SlOk z a len cap ∧ len = List.length (α := e.den) x ∧
      (cap = 0 ∨ ∃ b ch, a = some ⟨b, 0, none⟩ ∧ h b = some (.row ch u) ∧ ch.length = cap * e.size ∧ EList (fun y c => Rel e false y c (t ++ [3])) x (ch.take (len * e.size)))
  | .eref u e off _, _, x, cs, _ => ∃ b ch, cs = [.pointer (some ⟨b, Int.toNat x * e.size + off, none⟩)] ∧ h b = some (.row ch u) ∧ Int.toNat x * e.size + e.size ≤ ch.length
  | .nb neg, _, x, cs, _ => ∃ b : Bool, cs = [.bool b] ∧ (x = false → b = neg)
end

/-- a whole value: a struct or an array is its cells -/
def VRel (σ : Sg) (h : Hp) (T : Ty) (x : T.den) (v : Value) (t : Tag) : Prop :=
  ∃ c, wr T.agg v c ∧ Rel σ h T false x c t

end Go.Proofs.Bw
namespace Go.Proofs.Bw
open Go

structure SV where
  T : Ty
  x : T.den
abbrev St := List (Nat × Option SV)
def St.get : St → Nat → Option SV
  | [], _ => none
  | (k, v) :: r, s => bif Nat.beq k s then v else St.get r s

inductive Opd where
  | t (s : Nat)
  | c (v : SV)

def isPre : Tag → Tag → Bool
  | [], _ => true
  | a :: x, b :: y => Nat.beq a b && isPre x y
  | _, [] => false
def isPreAny : List Tag → Tag → Bool
  | [], _ => false
  | k :: r, t => isPre k t || isPreAny r t
def Ty.looks : Ty → Option Tag
  | .slV _ u _ => some u
  | .vref u _ => some u
  | .ptr u _ _ _ _ => some u
  | .slA _ u _ => some u
  | .mref u => some u
  | .fnp _ u => some u
  | .slT u _ => some u
  | .eref u _ _ _ => some u
  | _ => none
def deadV (ks : List Tag) (v : SV) : Bool :=
  match v.T.looks with
  | some u => isPreAny ks u
  | none => false
def killSt (ks : List Tag) : St → St
  | [] => []
  | (k, some v) :: r => (k, bif deadV ks v then none else some v) :: killSt ks r
  | (k, none) :: r => (k, none) :: killSt ks r
def St.upd (st : St) (us : St) (ks : List Tag) : St :=
  match ks with
  | [] => us ++ st
  | _ :: _ => us ++ killSt ks st
def memN : List Nat → Nat → Bool
  | [], _ => false
  | k :: r, s => Nat.beq k s || memN r s
def okV (l : List Nat) (v : SV) : Bool :=
  match v.T.looks with
  | some (k :: _) => memN l k
  | some [] => false
  | none => true
/-- some slots alone, and of views those whose root is among them -/
def keepL (l : List Nat) (st : St) : List Nat → St
  | [] => []
  | s :: r => (s, match St.get st s with
    | some v => bif okV l v then some v else none
    | none => none) :: keepL l st r
def keepSt (st : St) (l : List Nat) : St := keepL l st l

/-! numbers -/
def iand (k : IntKind) (a b : Int) : Int := k.wrap (BitVec.ofInt k.bits a &&& BitVec.ofInt k.bits b).toNat
def ior (k : IntKind) (a b : Int) : Int := k.wrap (BitVec.ofInt k.bits a ||| BitVec.ofInt k.bits b).toNat
def ixor (k : IntKind) (a b : Int) : Int := k.wrap (BitVec.ofInt k.bits a ^^^ BitVec.ofInt k.bits b).toNat
def iandn (k : IntKind) (a b : Int) : Int := k.wrap (BitVec.ofInt k.bits a &&& ~~~ BitVec.ofInt k.bits b).toNat
def ishl (k : IntKind) (a : Int) (n : Nat) : Int := k.wrap (a * 2 ^ (min n k.bits))
def ishr (k : IntKind) (a : Int) (n : Nat) : Int := a.fdiv (2 ^ (min n k.bits))
def slt : List Int → List Int → Bool
  | _, [] => false
  | [], _ :: _ => true
  | a :: x, b :: y => decide (a < b) || (decide (a = b) && slt x y)

def imax (x y : Int) : Int := if y > x then y else x
def imin (x y : Int) : Int := if y < x then y else x
def bytesOf (l : List Int) : ByteArray := ⟨(l.map fun x => UInt8.ofNat x.toNat).toArray⟩
/-- the rune at a place of a string, and how many bytes it takes -/
def decL (l : List Int) (p : Int) : Int × Int := let r := Utf8.decode (bytesOf l) p.toNat; ((r.1 : Int), (r.2 : Int))
def eqI (a b : Int) : Bool := decide (a = b)
def eqS (a b : List Int) : Bool := decide (a = b)
def lnth {α : Type} (l : List α) (i : Int) : Option α := l[i.toNat]?
def lset {α : Type} (l : List α) (i : Int) (v : α) : List α := l.set i.toNat v
/-- equality of plain data -/
def eqv : (T : Ty) → T.den → T.den → Bool
  | .int _, x, y => eqI x y
  | .bool, x, y => bbeq x y
  | .str, x, y => eqS x y
  | .unit, _, _ => true
  | .pair a b, x, y => eqv a x.1 y.1 && eqv b x.2 y.2
  | .arr _ e, x, y => eqvL (eqv e) x y
  | _, _, _ => false
where
  eqvL {α : Type} (f : α → α → Bool) : List α → List α → Bool
  | [], [] => true
  | a :: x, b :: y => f a b && eqvL f x y
  | _, _ => false
def Ty.eqable : Ty → Bool
  | .int _ | .bool | .str | .unit => true
  | .pair a b => a.eqable && b.eqable
  | .arr _ e => e.eqable
  | _ => false

/-! what depends on data -/
section
variable {R : Type}
def idxK {α : Type} (xs : List α) (i : Int) (K : α → Option R) : Option R := if 0 ≤ i then (lnth xs i).bind K else none
def inK' (i : Int) (n : Nat) (K : Option R) : Option R := if 0 ≤ i ∧ i < (n : Int) then K else none
def leK (n m : Nat) (K : Option R) : Option R := if n ≤ m then K else none
def sliceK (lo hi : Int) (n : Nat) (K : Option R) : Option R := if 0 ≤ lo ∧ lo ≤ hi ∧ hi ≤ (n : Int) then K else none
def nzK (b : Int) (K : Option R) : Option R := if b = 0 then none else K
def geK (b : Int) (K : Option R) : Option R := if 0 ≤ b then K else none
end
def cut {α : Type} (xs : List α) (lo hi : Int) : List α := (xs.take hi.toNat).drop lo.toNat

/-! places -/
def getK {R : Type} : (T : Ty) → T.den → Tag → Int → (SV → Option R) → Option R
  | .box e, x, 0 :: p, i, K => getK e x p i K
  | .pair a _, x, 1 :: p, i, K => getK a x.1 p i K
  | .pair _ b, x, 2 :: p, i, K => getK b x.2 p i K
  | .arr _ e, x, 3 :: p, i, K => (lnth (α := e.den) x i).bind fun v => getK e v p i K
  | T, x, [], _, K => K ⟨T, x⟩
  | _, _, _ :: _, _, _ => none
def setK {R : Type} : (T : Ty) → T.den → Tag → Int → SV → (SV → Option R) → Option R
  | .box e, x, 0 :: p, i, v, K => setK e x p i v fun w => K ⟨.box w.T, w.x⟩
  | .pair a b, x, 1 :: p, i, v, K => setK a x.1 p i v fun w => K ⟨.pair w.T b, (w.x, x.2)⟩
  | .pair a b, x, 2 :: p, i, v, K => setK b x.2 p i v fun w => K ⟨.pair a w.T, (x.1, w.x)⟩
  | .arr n e, x, [3], i, v, K => if h : v.T.beq e = true then K ⟨.arr n e, lset (α := e.den) x i (Ty.cast h v.x)⟩ else none
  | .arr n e, x, 3 :: p, i, v, K => (lnth (α := e.den) x i).bind fun y => setK e y p i v fun w =>
      if h : w.T.beq e = true then K ⟨.arr n e, lset (α := e.den) x i (Ty.cast h w.x)⟩ else none
  | T, _, [], _, v, K => bif Nat.beq v.T.size T.size then K v else none
  | _, _, _ :: _, _, _, _ => none
def tyAt : Ty → Tag → Option Ty
  | .box e, 0 :: p => tyAt e p
  | .pair a _, 1 :: p => tyAt a p
  | .pair _ b, 2 :: p => tyAt b p
  | .arr _ e, 3 :: p => tyAt e p
  | T, [] => some T
  | _, _ :: _ => none
/-- field n of a struct: its offset in cells, its type, the steps to it -/
def fieldAt : Ty → Nat → Option (Nat × Ty × Tag)
  | .pair a _, 0 => some (0, a, [1])
  | .pair a b, n + 1 => match fieldAt b n with
    | some (o, T, p) => some (a.size + o, T, 2 :: p)
    | none => none
  | _, _ => none

/-! from one type to a wider one: the data stay -/
def nmLe : Nm → Nm → Bool
  | _, .U => true
  | .N, .N => true
  | .S, .S => true
  | _, _ => false
def coe : Bool → (a b : Ty) → a.den → Option b.den
  | m, .pair a b, .pair c d, x => match coe false a c x.1, coe m b d x.2 with
    | some y, some z => some (y, z)
    | _, _ => none
  | _, .box a, .box b, x => coe false a b x
  | _, .box a, .opt b, x => match coe false a b x with
    | some y => some (some y)
    | none => none
  | _, .tup a, .tup b, x => coe true a b x
  | _, .slB z c a, .slB y d b, x => if h : a.beq b = true then (bif nmLe z y && (c || !d) then some (Ty.eq_of_beq h ▸ x) else none) else none
  | _, .slX z a, .slX y b, x => if h : a.beq b = true then (bif nmLe z y then some (Ty.eq_of_beq h ▸ x) else none) else none
  | _, .nil 0, .slB y _ _, _ => (match y with | .S => none | _ => some [])
  | _, .nil 0, .slX y _, _ => (match y with | .S => none | _ => some [])
  | _, .nil 1, .opt _, _ => some none
  | _, .nil 1, .oref _, _ => some none
  | _, .cref a, .oref b, x => if h : a.beq b = true then some (some (Ty.cast h x)) else none
  | _, a, .any, _ => bif a.agg then none else some ()
  | _, a, b, x => if h : a.beq b = true then some (Ty.cast h x) else none

/-! a function's contract -/
def chain : List (Ty × Bool) → Ty
  | [] => .unit
  | (T, _) :: r => .pair T (chain r)
def rtOf : List (Ty × Bool) → Ty → Ty
  | [], r => r
  | (T, true) :: l, r => .pair T (rtOf l r)
  | (_, false) :: l, r => rtOf l r
structure FSpec where
  f : FuncId
  ps : List (Ty × Bool)      -- parameters; true: what it owns is lent, and comes back
  r : Ty                     -- the result
  run : (chain ps).den → Option (rtOf ps r).den

inductive Arg where
  | v (o : Opd)              -- a copy
  | k (s : Nat)              -- the slot's value goes over
  | l (s : Nat)              -- a pointer: what it points at is lent
  | m (s : Nat)              -- the slot's value is lent
  | r (s : Nat)              -- a pointer: what it points at is looked at, and stays

inductive Cv where
  | int (k : IntKind)
  | b2s
  | s2b
  | same

/-- what is done with a look at types alone -/
inductive ShOp where
  | bor (s : Nat)
  | fa (a n off : Nat)
  | ld (a sz : Nat) (ag : Bool)
  | nc (a : Nat)
inductive XOp where
  | mv (d : Nat) (a : Opd)
  | take (d s : Nat)
  | bor (d s : Nat)
  | als (d s : Nat)
  | frz (d s : Nat)
  | idxE (d : Nat) (a i : Opd) (es : Nat)
  | ldE (d a sz : Nat) (ag : Bool)
  | ldA (d a sz : Nat)
  | stE (a : Nat) (v : Opd) (sz : Nat)
  | bin (d : Nat) (o : BinOp) (a b : Opd)
  | eqs (d : Nat) (neg : Bool) (a b : Opd) (T : Ty)
  | un (d : Nat) (o : UnOp) (a : Opd)
  | cvt (d : Nat) (c : Cv) (a : Opd)
  | len (d : Nat) (a : Opd) (str : Bool)
  | idxA (d : Nat) (a i : Opd) (es : Nat) (al : Nat)
  | idx (d : Nat) (a i : Opd) (es : Nat) (ag : Bool) (al : Nat)
  | ld (d : Nat) (a : Nat) (sz : Nat) (ag : Bool)
  | ldT (d : Nat) (a : Nat) (sz : Nat) (ag : Bool)
  | st (a : Nat) (v : Opd) (sz : Nat)
  | stS (a : Nat) (v : Opd) (sz : Nat)      -- the same, in a drawn region: the other views are spared
  | stT (a s : Nat) (sz : Nat)
  | alloc (d : Nat) (z : SV)
  | boxv (d : Nat) (a : Opd)
  | boxT (d s : Nat)
  | crefv (d : Nat) (a : Opd)
  | fa (d a n : Nat) (off : Nat)
  | fld (d : Nat) (a : Opd) (n : Nat) (off sz : Nat) (ag : Bool)
  | build (d : Nat) (z : SV) (ps : List (Nat × Opd × Bool))
  | bsl (d : Nat) (e : Ty) (ps : List Opd)
  | slc (d : Nat) (a : Opd) (lo hi mx : Option Opd) (es : Nat)
  | slcX (d s : Nat) (hi : Opd) (es : Nat)
  | mnx (d : Nat) (mx : Bool) (a b : Opd)
  | rng (d : Nat) (a : Opd)
  | nxt (d s : Nat)
  | app (d s : Nat) (b : Opd) (eb es : Nat)
  | appC (d : Nat) (a b : Opd) (eb es : Nat)
  | mk (d : Nat) (z : SV) (n c : Opd) (eb : Nat)
  | ext (d a n : Nat)
  | pick (d : Nat) (c a b : Opd)
  | pickG (d : Nat) (c a b : Opd) (l : List Nat)
  | nilchk (d : Nat) (a : Opd)
  | eqnil (d : Nat) (a : Opd) (neg sl : Bool)
  | call (d : Option Nat) (sp : FSpec) (as : List Arg)
  | callT (d : Option Nat) (sp : FSpec) (as : List Arg) (lt : List Tag)      -- what it writes lies below lt, and stays of its type
  | callV (d : Option Nat) (sp : FSpec) (s N : Nat) (as : List Arg)      -- the function that slot s holds; N: the number of slots
  | shp (d : Nat) (o : ShOp) (u : Tag)      -- a view of u
  | capN (d : Nat) (a : Opd)
  | slcN (d : Nat) (a : Opd) (lo hi : Option Opd) (es : Nat)
  | appZ (d : Nat) (a n : Opd) (z : SV) (eb : Nat)
  | slcT (d s : Nat) (lo : Opd) (es : Nat)
  | clr (s : Nat) (z : SV) (eb : Nat)
  | mkmap (d : Nat) (k v : Ty)
  | alsM (d s : Nat)
  | mset (a : Nat) (b c : Opd) (k v : Ty)
  | mget (d a : Nat) (b : Opd) (k : Ty) (z : SV)      -- z: what is not there
  | mkfn (d : Nat) (f : FuncId) (cs : List (Opd × Bool))
  | mkfp (d : Nat) (f : FuncId) (s : Nat)      -- a function value that catches the pointer s
  | callF (d : Option Nat) (sp : FSpec) (s N : Nat) (as : List Arg)      -- such a one is called
  | coeS (s : Nat) (T : Ty)
def ShOp.toX (d : Nat) : ShOp → XOp
  | .bor s => .bor d s
  | .fa a n off => .fa d a n off
  | .ld a sz ag => .ld d a sz ag
  | .nc a => .nilchk d (.t a)

inductive XI where
  | nil
  | op (o : XOp) (f : Option (List Nat × List Nat)) (r : XI)      -- f: the slots it may see, and those it may write
  | grp (j : Nat) (want : Bool) (b : XI) (res d : Nat) (l : List Nat) (r : XI)      -- l: the slots of b
  | grpS (j : Nat) (want : Bool) (b : XI) (res d : Nat) (l ex : List Nat) (r : XI)      -- the same; ex: what else b writes

section
variable {R : Type} (g : Nat → Option SV)
def opv : Opd → Option SV
  | .t s => g s
  | .c v => some v
def opI : Opd → Option (IntKind × Int)
  | o => match opv g o with
    | some ⟨.int k, x⟩ => some (k, x)
    | _ => none
def opL : Opd → Option (Σ e : Ty, List e.den)     -- a slice's elements, wherever they are
  | o => match opv g o with
    | some ⟨.slB _ _ e, x⟩ => some ⟨e, x⟩
    | some ⟨.slV _ _ e, x⟩ => some ⟨e, x⟩
    | some ⟨.slA _ _ e, x⟩ => some ⟨e, x⟩
    | some ⟨.nil 0, _⟩ => some ⟨.any, []⟩
    | _ => none
def optOpd (d : Int) : Option Opd → Option Int
  | none => some d
  | some o => match opI g o with
    | some (_, i) => some i
    | none => none

def binK (d : Nat) (o : BinOp) (a b : SV) (K : St → Option R) : Option R :=
  match a, b with
  | ⟨.int k, x⟩, ⟨.int j, y⟩ =>
    let x : Int := x
    let y : Int := y
    let i (n : Int) : Option R := K [(d, some ⟨.int k, n⟩)]
    let t (n : Bool) : Option R := K [(d, some ⟨.bool, n⟩)]
    match o with
    | .shl => geK y (i (ishl k x y.toNat))
    | .shr => geK y (i (ishr k x y.toNat))
    | o => bif Nat.beq (kn k) (kn j) then (match o with
      | .add => i (k.wrap (x + y))
      | .sub => i (k.wrap (x - y))
      | .mul => i (k.wrap (x * y))
      | .quo => nzK y (i (k.wrap (x.tdiv y)))
      | .rem => nzK y (i (x.tmod y))
      | .and => i (iand k x y)
      | .or => i (ior k x y)
      | .xor => i (ixor k x y)
      | .andNot => i (iandn k x y)
      | .eql => t (decide (x = y))
      | .neq => t (!decide (x = y))
      | .lss => t (decide (x < y))
      | .leq => t (decide (x ≤ y))
      | .gtr => t (decide (y < x))
      | .geq => t (decide (y ≤ x))
      | _ => none) else none
  | ⟨.str, x⟩, ⟨.str, y⟩ =>
    let x : List Int := x
    let y : List Int := y
    let t (n : Bool) : Option R := K [(d, some ⟨.bool, n⟩)]
    match o with
    | .add => leK (x.length + y.length) maxLen (K [(d, some ⟨.str, x ++ y⟩)])
    | .eql => t (decide (x = y))
    | .neq => t (!decide (x = y))
    | .lss => t (slt x y)
    | .leq => t (slt x y || decide (x = y))
    | .gtr => t (!(slt x y || decide (x = y)))
    | .geq => t (!slt x y)
    | _ => none
  | _, _ => none

/-- what a place's content is as a temporary, the place staying as it is -/
def lookV (d : Nat) (t : Tag) (v : SV) (K : St → Option R) : Option R :=
  match v with
  | ⟨.slX z e, x⟩ => K [(d, some ⟨.slV z t e, x⟩)]
  | ⟨.box _, _⟩ => K [(d, some ⟨.ptr t 0 0 1 [], (0 : Int)⟩)]
  | v => bif v.T.pure || v.T.looks.isSome then K [(d, some v)] else none
end
end Go.Proofs.Bw
namespace Go.Proofs.Bw
open Go

def fieldV : (T : Ty) → T.den → Nat → Option SV
  | .pair a _, x, 0 => some ⟨a, x.1⟩
  | .pair _ b, x, n + 1 => fieldV b x.2 n
  | _, _, _ => none
def setF : (T : Ty) → T.den → Nat → SV → Option SV
  | .pair a b, x, 0, v => bif Nat.beq v.T.size a.size && bbeq v.T.agg a.agg then some ⟨.pair v.T b, (v.x, x.2)⟩ else none
  | .pair a b, x, n + 1, v => match setF b x.2 n v with
    | some w => some ⟨.pair a w.T, (x.1, w.x)⟩
    | none => none
  | .arr n e, x, i, v => if h : v.T.beq e = true then (bif Nat.blt i n then some ⟨.arr n e, lset (α := e.den) x (i : Int) (Ty.cast h v.x)⟩ else none) else none
  | _, _, _, _ => none
def hasIdx : Tag → Bool
  | [] => false
  | k :: r => Nat.beq k 3 || hasIdx r
/-- where a place lies in its block: offset, stride of the index, how many -/
def offAt : Ty → Tag → Option (Nat × Nat × Nat)
  | .pair a _, 1 :: p => offAt a p
  | .pair a b, 2 :: p => (match offAt b p with
    | some (o, s, n) => some (a.size + o, s, n)
    | none => none)
  | .arr n e, 3 :: p => bif hasIdx p then none else (match offAt e p with
    | some (o, _, _) => some (o, e.size, n)
    | none => none)
  | _, [] => some (0, 0, 1)
  | _, _ :: _ => none

def castL {a b : Ty} (h : a.beq b = true) (x : List a.den) : List b.den := (Ty.eq_of_beq h) ▸ x
def zipNm : Nm → Nm
  | .N => .U
  | z => z

def Ty.isStr : Ty → Bool
  | .str => true
  | _ => false

section
variable {R : Type}
def optM {α β : Type} (x : Option α) (a : β) (f : α → β) : β :=
  match x with
  | none => a
  | some y => f y
def eqK (a b : Int) (K : Option R) : Option R := if a = b then K else none
def mkK (n c : Int) (eb : Nat) (K : Option R) : Option R := if 0 ≤ n ∧ n ≤ c ∧ c.toNat * eb ≤ 140737488355328 then K else none
def appK (n m eb : Nat) (K : Option R) : Option R := if (n + m) * eb ≤ 140737488355328 then K else none

variable (g : Nat → Option SV)
/-- a slot as a pointer: one that holds a box is the box's address -/
def gp (s : Nat) : Option SV :=
  match g s with
  | some ⟨.box _, _⟩ => some ⟨.ptr [s] 0 0 1 [], (0 : Int)⟩
  | some ⟨.slX z e, x⟩ => some ⟨.slV z [s] e, x⟩
  | v => v
def gpo : Opd → Option SV
  | .t s => gp g s
  | .c v => some v
def fresh (d : Nat) : Bool :=
  match g d with
  | none => true
  | some v => v.T.pure || v.T.looks.isSome
/-- a pointer's slot, steps, offset, stride, number, steps in the block, index; its root; the type of the block -/
def ptrK (v : Option SV) (K : Nat → Tag → Nat → Nat → Nat → Tag → Int → SV → Ty → Option R) : Option R :=
  match v with
  | some ⟨.ptr (s :: q) off str n p, i⟩ => (match g s with
    | some r => bif hasIdx q then none else (match tyAt r.T (q ++ [0]) with
      | some C => (match offAt C p with
        | some (o, s', n') => bif Nat.beq o off && Nat.beq s' str && Nat.beq n' n then K s q off str n p i r C else none
        | none => none)
      | none => none)
    | none => none)
  | _ => none
/-- a list of elements out of an operand -/
def elems (e : Ty) (v : SV) : Option (List e.den) :=
  match v with
  | ⟨.slB _ _ a, x⟩ => if h : a.beq e = true then some (castL h x) else none
  | ⟨.slV _ _ a, x⟩ => if h : a.beq e = true then some (castL h x) else none
  | ⟨.str, x⟩ => if h : Ty.beq (.int .u8) e = true then some (castL (a := .int .u8) h x) else none
  | ⟨.nil 0, _⟩ => some []
  | _ => none
def opvs (e : Ty) : List Opd → Option (List e.den)
  | [] => some []
  | o :: r => match opv g o, opvs e r with
    | some v, some l => if h : v.T.beq e = true then some (Ty.cast h v.x :: l) else none
    | _, _ => none
/-- the parts of a struct; which slots are emptied -/
def buildK (v : SV) : List (Nat × Opd × Bool) → List Nat → (SV → List Nat → Option R) → Option R
  | [], l, K => K v l
  | (n, o, tk) :: r, l, K => match opv g o with
    | some u => (bif tk then (match o with
        | .t s => bif u.T.closed && u.T.solid && !(l.contains s) then (match setF v.T v.x n u with
            | some w => buildK w r (s :: l) K
            | none => none) else none
        | .c _ => none)
      else bif u.T.pure then (match setF v.T v.x n u with
        | some w => buildK w r l K
        | none => none) else none)
    | none => none
def asB (v : SV) : SV :=
  match v with
  | ⟨.slV z _ e, x⟩ => ⟨.slB z false e, x⟩
  | v => v
def coeV (v : SV) (T : Ty) : Option T.den := coe false v.T T v.x
/-- what is owned, as cells that stay as they are -/
def Ty.fzOk : Ty → Bool
  | .pair a b => a.fzOk && b.fzOk
  | .slX _ e => e.pure
  | .box e => e.fzOk
  | .opt e => e.fzOk
  | T => T.pure
def Ty.fz : Ty → Ty
  | .pair a b => .pair a.fz b.fz
  | .slX z e => .slB z false e
  | .box e => .cref e.fz
  | .opt e => .oref e.fz
  | T => T
def optmap {α β : Type} (f : α → β) : Option α → Option β
  | none => none
  | some x => some (f x)
def Ty.fzx : (T : Ty) → T.den → T.fz.den
  | .pair a b, x => (a.fzx x.1, b.fzx x.2)
  | .slX _ _, x => x
  | .box e, x => e.fzx x
  | .opt e, x => optmap e.fzx x
  | .int _, x => x | .bool, x => x | .str, x => x | .unit, x => x | .arr _ _, x => x | .slB _ _ _, x => x | .slV _ _ _, x => x | .ptr _ _ _ _ _, x => x | .cref _, x => x | .vref _ _, x => x
  | .fn _ _, x => x | .ifc _ _, x => x | .tup _, x => x | .nil _, x => x | .map _ _, x => x | .any, x => x | .siter, x => x | .mref _, x => x | .fnp _ _, x => x | .slT _ _, x => x | .slA _ _ _, x => x | .eref _ _ _ _, x => x | .oref _, x => x | .nb _, x => x
/-- what a function value catches; true: a place that stays as it is from now on -/
def capsK : List (Opd × Bool) → List Nat → (SV → List Nat → Option R) → Option R
  | [], l, K => K ⟨.unit, ()⟩ l
  | (o, tk) :: r, l, K => match opv g o with
    | some u => (bif tk then (match o with
        | .t s => bif u.T.fzOk && u.T.closed && !(l.contains s) then capsK r (s :: l) (fun c l => K ⟨.pair u.T.fz c.T, (u.T.fzx u.x, c.x)⟩ l) else none
        | .c _ => none)
      else bif u.T.pure then capsK r l (fun c l => K ⟨.pair u.T c.T, (u.x, c.x)⟩ l) else none)
    | none => none
def fzS (l : List Nat) : St := l.map fun s => (s, match g s with
  | some v => some ⟨v.T.fz, v.T.fzx v.x⟩
  | none => none)
def refV (T : Ty) (s : Nat) : Option T.den :=
  match gp g s with
  | some ⟨.nil 1, x⟩ => coeV ⟨.nil 1, x⟩ T
  | some ⟨.cref e, x⟩ => bif e.pure then coeV ⟨.cref e, x⟩ T else none
  | some ⟨.oref e, x⟩ => bif e.pure then coeV ⟨.oref e, x⟩ T else none
  | v => ptrK g v fun _ q _ _ _ p i r _ => getK r.T r.x ((q ++ [0]) ++ p) i fun u => bif u.T.closed && u.T.fzOk then coeV ⟨.cref u.T.fz, u.T.fzx u.x⟩ T else none
/-- one argument as its parameter's data; which slot it empties -/
def argV (T : Ty) : Arg → Option T.den
  | .v o => match gpo g o with
    | some v => bif (asB v).T.pure then coeV (asB v) T else none
    | none => none
  | .k s => match g s with
    | some v => bif v.T.closed then coeV v T else none
    | none => none
  | .m s => match g s with
    | some v => bif v.T.closed then (if h : v.T.beq T = true then some (Ty.cast h v.x) else none) else none
    | none => none
  | .r s => refV g T s
  | .l _ => none
/-- what a pointer's slot points at, for a call -/
def lendK (T : Ty) (s : Nat) (K : T.den → Option R) : Option R :=
  match gp g s with
  | some ⟨.nil 1, x⟩ => (match coeV ⟨.nil 1, x⟩ T with
    | some x => K x
    | none => none)
  | v => ptrK g v fun _ q off _ _ p _ r C => bif hasIdx p || !Nat.beq off 0 then none else getK r.T r.x ((q ++ [0]) ++ p) 0 fun v => bif Nat.beq v.T.size C.size then (match coeV ⟨.box v.T, v.x⟩ T with
      | some x => K x
      | none => none) else none
def argsK : (ps : List (Ty × Bool)) → List Arg → ((chain ps).den → Option R) → Option R
  | [], [], K => K ()
  | (T, true) :: ps, .l s :: as, K => lendK g T s fun x => argsK ps as fun y => K (x, y)
  | (T, true) :: ps, .m s :: as, K => match argV g T (.m s) with
    | some x => argsK ps as fun y => K (x, y)
    | none => none
  | (T, false) :: ps, .v o :: as, K => match argV g T (.v o) with
    | some x => argsK ps as fun y => K (x, y)
    | none => none
  | (T, false) :: ps, .k s :: as, K => match argV g T (.k s) with
    | some x => argsK ps as fun y => K (x, y)
    | none => none
  | (T, false) :: ps, .r s :: as, K => match argV g T (.r s) with
    | some x => argsK ps as fun y => K (x, y)
    | none => none
  | _, _, _ => none
def argSlots : List Arg → List Nat
  | [] => []
  | .k s :: r => s :: argSlots r
  | .m s :: r => s :: argSlots r
  | _ :: r => argSlots r
def ovr (us : St) (s : Nat) : Option SV :=
  match us with
  | [] => g s
  | (k, v) :: r => bif Nat.beq k s then v else ovr r s
/-- what comes back: the places that were lent, then the result -/
def backK : (ps : List (Ty × Bool)) → List Arg → (r : Ty) → (rtOf ps r).den → St → List Tag → (r.den → St → List Tag → Option R) → Option R
  | [], [], _, x, us, ks, K => K x us ks
  | (T, true) :: ps, .l s :: as, r, x, us, ks, K => (match gp g s with
    | some ⟨.nil 1, _⟩ => backK ps as r x.2 us ks K
    | some ⟨.ptr (k :: q) _ _ _ p, _⟩ => (match ovr g us k, T, x with
      | some v, .box e, x => setK v.T v.x ((q ++ [0]) ++ p) 0 ⟨e, x.1⟩ fun w => backK ps as r x.2 ((k, some w) :: us) ((k :: q ++ [0]) :: ks) K
      | some v, .opt e, x => Option.bind (α := e.den) x.1 fun y => setK v.T v.x ((q ++ [0]) ++ p) 0 ⟨e, y⟩ fun w => backK ps as r x.2 ((k, some w) :: us) ((k :: q ++ [0]) :: ks) K
      | _, _, _ => none)
    | _ => none)
  | (T, true) :: ps, .m s :: as, r, x, us, ks, K => backK ps as r x.2 ((s, some ⟨T, x.1⟩) :: us) ([s] :: ks) K
  | (_, false) :: ps, .v _ :: as, r, x, us, ks, K => backK ps as r x us ks K
  | (_, false) :: ps, .r _ :: as, r, x, us, ks, K => backK ps as r x us ks K
  | (_, false) :: ps, .k s :: as, r, x, us, ks, K => backK ps as r x ((s, none) :: us) ([s] :: ks) K
  | _, _, _, _, _, _, _ => none
/-- the places that are lent, and the slots that are given: each below a root of its own -/
def lentTags : List Arg → List Tag
  | [] => []
  | .l s :: r => (match gp g s with
    | some ⟨.ptr u _ _ _ _, _⟩ => u :: lentTags r
    | some ⟨.nil 1, _⟩ => lentTags r
    | _ => [] :: lentTags r)
  | .k s :: r => [s] :: lentTags r
  | .m s :: r => [s] :: lentTags r
  | .v _ :: r => lentTags r
  | .r _ :: r => lentTags r
def headIn : List Tag → Nat → Bool
  | [], _ => false
  | (j :: _) :: r, k => Nat.beq j k || headIn r k
  | [] :: _, _ => true
def apartT : List Tag → Bool
  | [] => true
  | (k :: _) :: r => !headIn r k && apartT r
  | [] :: _ => false
/-- is a view handed over? then what comes back must not look at shared cells -/
def shares : List Arg → Bool
  | [] => false
  | .v o :: r => (match gpo g o with
    | some ⟨.slV _ _ _, _⟩ => true
    | _ => shares r)
  | .r s :: r => (match gp g s with
    | some ⟨.ptr _ _ _ _ _, _⟩ => true
    | _ => shares r)
  | _ :: r => shares r
/-- views that are handed over look at nothing that is given away -/
def viewsOk (gs : List Tag) : List Arg → Bool
  | [] => true
  | .v o :: r => (match gpo g o with
    | some ⟨.slV _ (k :: _) _, _⟩ => !headIn gs k
    | some ⟨.slV _ [] _, _⟩ => false
    | _ => true) && viewsOk gs r
  | .r s :: r => (match gp g s with
    | some ⟨.ptr (k :: _) _ _ _ _, _⟩ => !headIn gs k
    | some ⟨.ptr [] _ _ _ _, _⟩ => false
    | _ => true) && viewsOk gs r
  | _ :: r => viewsOk gs r
def lentFree : List (Ty × Bool) → Bool
  | [] => true
  | (T, true) :: r => T.free && lentFree r
  | _ :: r => lentFree r

def put (d : Nat) (v : SV) (K : St → List Tag → Option R) : Option R := bif fresh g d then K [(d, some v)] [] else none
def putR (d s : Nat) (v w : SV) (ks : List Tag) (K : St → List Tag → Option R) : Option R :=
  bif fresh g d && !Nat.beq d s then K [(d, some v), (s, some w)] ks else none
def none2 (l : List Nat) : St := l.map fun s => (s, none)
def tags1 (l : List Nat) : List Tag := l.map fun s => [s]
/-- what is left in a slot whose value went to slot d: a look at it -/
def takeV (d : Nat) (v : SV) : Option SV :=
  match v with
  | ⟨.slX z e, x⟩ => some ⟨.slV z [d] e, x⟩
  | ⟨.box _, _⟩ => some ⟨.ptr [d] 0 0 1 [], (0 : Int)⟩
  | _ => none

/-- maps, as lists -/
def mapGet (k : Ty) {β : Type} (x : k.den) : List (k.den × β) → Option β
  | [] => none
  | p :: r => bif eqv k x p.1 then some p.2 else mapGet k x r
def mapSet (k : Ty) {β : Type} (x : k.den) (z : β) : List (k.den × β) → List (k.den × β)
  | [] => [(x, z)]
  | p :: r => bif eqv k x p.1 then (x, z) :: r else p :: mapSet k x z r
def keyT : Ty → Bool
  | .int _ | .bool | .str | .unit => true
  | .pair a b => keyT a && keyT b
  | _ => false
/-- the map that a slot's reference names: its slot, the types, the data -/
def mrefK (a : Nat) (K : Nat → (k v : Ty) → List (k.den × v.den) → Option R) : Option R :=
  match g a with
  | some ⟨.mref [s], _⟩ => (match g s with
    | some ⟨.map k v, x⟩ => K s k v x
    | _ => none)
  | _ => none
/-- what a function value has caught, as slots from N on -/
def capAt : (C : Ty) → C.den → Nat → Option SV
  | .pair A _, x, 0 => some ⟨A, x.1⟩
  | .pair _ B, x, i + 1 => capAt B x.2 i
  | _, _, _ => none
def withCaps (N : Nat) (C : Ty) (x : C.den) : Nat → Option SV := fun i => bif Nat.blt i N then g i else capAt C x (i - N)
def capArgs : Nat → Ty → List Arg
  | N, .pair _ B => .v (.t N) :: capArgs (N + 1) B
  | _, _ => []
def capsOk : Ty → Bool
  | .pair _ B => capsOk B
  | .unit => true
  | _ => false
def allLt (N : Nat) : St → Bool
  | [] => true
  | (k, _) :: r => Nat.blt k N && allLt N r
/-- a call: what was lent comes back, what was given is gone -/
def callEv (d : Option Nat) (sp : FSpec) (as : List Arg) (K : St → List Tag → Option R) : Option R :=
  bif apartT (lentTags g as) && viewsOk g (lentTags g as) as && (!shares g as || (sp.r.free && lentFree sp.ps)) then
      argsK g sp.ps as fun x => (sp.run x).bind fun y => backK g sp.ps as sp.r y [] [] fun z us ks => (match d with
        | some d => bif fresh g d && sp.r.closed && !((us.map (·.1)).contains d) && !headIn (lentTags g as) d then K ((d, some ⟨sp.r, z⟩) :: us) ks else none
        | none => K us ks) else none
/-- what was written is of the type that it was of (but for the result) -/
def sameT (d : Option Nat) : St → Bool
  | [] => true
  | (k, v) :: r => ((match d with
    | some d => Nat.beq d k
    | none => false) || (match v, g k with
    | some v, some u => v.T.beq u.T && u.T.closed
    | none, _ => true
    | some _, none => false)) && sameT d r
def belowT (lt : List Tag) : List Tag → Bool
  | [] => true
  | t :: r => isPreAny lt t && belowT lt r
def looksAt (v : SV) (u : Tag) : Bool := match v.T.looks with
  | some t => isPre t u && isPre u t
  | none => v.T.pure
def shV : ShOp → Option SV
  | .bor s => (match g s with
    | some ⟨.box _, _⟩ => some ⟨.ptr [s] 0 0 1 [], (0 : Int)⟩
    | some ⟨.ptr u o st m p, i⟩ => some ⟨.ptr u o st m p, i⟩
    | _ => none)
  | .nc a => (match gp g a with
    | some ⟨.ptr u o st m p, i⟩ => some ⟨.ptr u o st m p, i⟩
    | _ => none)
  | .fa a n off => (match gp g a with
    | some ⟨.ptr u o st m p, i⟩ => ptrK g (some ⟨.ptr u o st m p, i⟩) fun s q po str m p i _ C => (match tyAt C p with
      | some T => (match fieldAt T n with
        | some (o, _, qq) => bif Nat.beq o off then some ⟨.ptr (s :: q) (po + o) str m (p ++ qq), i⟩ else none
        | none => none)
      | none => none)
    | _ => none)
  | .ld a sz ag => (match gp g a with
    | some ⟨.ptr u o st m p, i⟩ => ptrK g (some ⟨.ptr u o st m p, i⟩) fun s q _ _ _ p _ r _ => bif hasIdx p then none else (match tyAt r.T ((q ++ [0]) ++ p) with
      | some (.box e) => bif Nat.beq (Ty.box e).size sz && bbeq (Ty.box e).agg ag then some ⟨.ptr (s :: (q ++ [0]) ++ p) 0 0 1 [], (0 : Int)⟩ else none
      | some (.nil 1) => bif Nat.beq (Ty.nil 1).size sz && bbeq (Ty.nil 1).agg ag then some ⟨.nil 1, ()⟩ else none
      | _ => none)
    | _ => none)
def evOp (K : St → List Tag → Option R) : XOp → Option R
  | .mv d a => (match opv g a with
    | some v => bif v.T.pure then put g d v K else none
    | none => none)
  | .take d s => (match g s with
    | some v => bif v.T.closed && fresh g d && !Nat.beq d s then K [(d, some v), (s, takeV d v)] [[s]] else none
    | none => none)
  | .bor d s => (match g s with
    | some ⟨.opt e, x⟩ => optM (α := e.den) x (put g d ⟨.nil 1, ()⟩ K) fun y => putR g d s ⟨.ptr [s] 0 0 1 [], (0 : Int)⟩ ⟨.box e, y⟩ [] K
    | some v => bif fresh g d then lookV d [s] v (fun us => K us []) else none
    | none => none)
  | .als d s => (match g s with
    | some ⟨.slX z e, x⟩ => put g d ⟨.slA z [s] e, x⟩ K
    | _ => none)
  | .ldA d a sz => ptrK g (gp g a) fun s q _ _ _ p _ r _ => bif hasIdx p || !Nat.beq sz 1 then none else getK r.T r.x ((q ++ [0]) ++ p) 0 fun v => (match v with
    | ⟨.slX z e, x⟩ => put g d ⟨.slA z (s :: (q ++ [0]) ++ p) e, x⟩ K
    | _ => none)
  | .frz d s => (match g s with
    | some ⟨.slX z e, x⟩ => bif fresh g d && !Nat.beq d s then K [(d, some ⟨.slB z false e, x⟩), (s, some ⟨.slB z false e, x⟩)] [[s]] else none
    | _ => none)
  | .idxE d a i es => (match gpo g a, opI g i with
    | some ⟨.slA _ u e, x⟩, some (_, i) => bif Nat.beq e.size es && Nat.ble 1 es then inK' i (List.length (α := e.den) x) (put g d ⟨.eref u e 0 [], i⟩ K) else none
    | _, _ => none)
  | .ldE d a sz ag => (match g a with
    | some ⟨.eref (k :: q) e off p, i⟩ => (match g k, offAt e p with
      | some r, some (o, _, _) => bif hasIdx q || hasIdx p || !Nat.beq o off then none else getK r.T r.x q 0 fun v => (match v with
        | ⟨.slX _ e', x⟩ => if h : e'.beq e = true then idxK (α := e.den) (castL h x) i fun y => getK e y p 0 fun u => bif u.T.pure && Nat.beq u.T.size sz && bbeq u.T.agg ag then put g d u K else none else none
        | _ => none)
      | _, _ => none)
    | _ => none)
  | .stE a o sz => (match opv g o, g a with
    | some v, some ⟨.eref (k :: q) e off p, i⟩ => (match g k, offAt e p with
      | some r, some (o, _, _) => bif hasIdx q || hasIdx p || !Nat.beq o off || !v.T.pure || !Nat.beq v.T.size sz then none else getK r.T r.x q 0 fun u => (match u with
        | ⟨.slX z e', x⟩ => if h : e'.beq e = true then idxK (α := e.den) (castL h x) i fun y => setK e y p 0 v fun y' => (if h' : y'.T.beq e = true then
            setK r.T r.x q 0 ⟨.slX z e, lset (α := e.den) (castL h x) i (Ty.cast h' y'.x)⟩ fun w => K [(k, some w)] [k :: q] else none) else none
        | _ => none)
      | _, _ => none)
    | _, _ => none)
  | .bin d o a b => (match opv g a, opv g b with
    | some x, some y => bif fresh g d then binK d o x y (fun us => K us []) else none
    | _, _ => none)
  | .eqs d neg a b T => (match opv g a, opv g b with
    | some x, some y => if h : x.T.beq T = true then (if k : y.T.beq T = true then
        (bif T.eqable then put g d ⟨.bool, bif neg then !eqv T (Ty.cast h x.x) (Ty.cast k y.x) else eqv T (Ty.cast h x.x) (Ty.cast k y.x)⟩ K else none) else none) else none
    | _, _ => none)
  | .un d o a => (match o, opv g a with
    | .not, some ⟨.bool, x⟩ => put g d ⟨.bool, !x⟩ K
    | .not, some ⟨.nb n, x⟩ => put g d ⟨.nb (!n), x⟩ K
    | .neg, some ⟨.int k, x⟩ => (let y : Int := x; put g d ⟨.int k, k.wrap (0 - y)⟩ K)
    | .xor, some ⟨.int k, x⟩ => put g d ⟨.int k, ixor k (if k.signed then -1 else k.max) x⟩ K
    | _, _ => none)
  | .cvt d c a => (match c, gpo g a with
    | .int k, some ⟨.int _, x⟩ => put g d ⟨.int k, k.wrap (x : Int)⟩ K
    | .b2s, some v => bif v.T.isStr then none else (match elems (.int .u8) v with
      | some l => put g d ⟨.str, l⟩ K
      | none => none)
    | .s2b, some ⟨.str, x⟩ => put g d ⟨.slX .S (.int .u8), x⟩ K
    | .same, some ⟨.str, x⟩ => put g d ⟨.str, x⟩ K
    | _, _ => none)
  | .len d a str => (match str, opv g a with
    | false, some ⟨.slB _ _ e, x⟩ => put g d ⟨.int .i64, (List.length (α := e.den) x : Int)⟩ K
    | false, some ⟨.slV _ _ e, x⟩ => put g d ⟨.int .i64, (List.length (α := e.den) x : Int)⟩ K
    | false, some ⟨.slA _ _ e, x⟩ => put g d ⟨.int .i64, (List.length (α := e.den) x : Int)⟩ K
    | false, some ⟨.slX _ e, x⟩ => put g d ⟨.int .i64, (List.length (α := e.den) x : Int)⟩ K
    | true, some ⟨.str, x⟩ => put g d ⟨.int .i64, (List.length (α := Int) x : Int)⟩ K
    | false, some ⟨.nil 0, _⟩ => put g d ⟨.int .i64, (0 : Int)⟩ K
    | _, _ => none)
  | .idxA d a i es al => (match gpo g a, opI g i with
    | some ⟨.slB _ _ e, x⟩, some (_, i) => bif Nat.beq e.size es && Nat.ble 1 es && Nat.beq al 0 then idxK (α := e.den) x i fun v => put g d ⟨.cref e, v⟩ K else none
    | some ⟨.slV _ u e, x⟩, some (_, i) => bif Nat.beq e.size es && Nat.beq al 0 then idxK (α := e.den) x i fun v => put g d ⟨.vref u e, v⟩ K else none
    | some ⟨.cref (.arr m e), x⟩, some (_, i) => bif Nat.beq e.size es && Nat.beq m al && !Nat.beq al 0 then idxK (α := e.den) x i fun v => put g d ⟨.cref e, v⟩ K else none
    | some ⟨.ptr u o1 s1 n1 p1, i1⟩, some (_, i) => ptrK g (some ⟨.ptr u o1 s1 n1 p1, i1⟩) fun s q off str _ p _ _ C => (match tyAt C p with
      | some (.arr m e) => bif Nat.beq str 0 && Nat.beq e.size es && Nat.beq m al && !Nat.beq al 0 then inK' i m (put g d ⟨.ptr (s :: q) off e.size m (p ++ [3]), i⟩ K) else none
      | _ => none)
    | _, _ => none)
  | .idx d a i es ag al => (match opv g a, opI g i with
    | some ⟨.str, x⟩, some (_, i) => bif Nat.beq al 0 then idxK (α := Int) x i fun v => put g d ⟨.int .u8, v⟩ K else none
    | some ⟨.arr m e, x⟩, some (_, i) => bif e.pure && Nat.beq e.size es && bbeq e.agg ag && Nat.beq m al && !Nat.beq al 0 then idxK (α := e.den) x i fun v => put g d ⟨e, v⟩ K else none
    | _, _ => none)
  | .ld d a sz ag => (match gp g a with
    | some ⟨.cref e, x⟩ => bif e.pure && Nat.beq e.size sz && bbeq e.agg ag then put g d ⟨e, x⟩ K else none
    | some ⟨.vref _ e, x⟩ => bif e.pure && Nat.beq e.size sz && bbeq e.agg ag then put g d ⟨e, x⟩ K else none
    | v => ptrK g v fun s q _ _ _ p i r _ => bif fresh g d then getK r.T r.x ((q ++ [0]) ++ p) i fun v => bif Nat.beq v.T.size sz && bbeq v.T.agg ag then (match v with
        | ⟨.opt e, x⟩ => optM (α := e.den) x (put g d ⟨.nil 1, ()⟩ K) fun y => bif hasIdx p then none else setK r.T r.x ((q ++ [0]) ++ p) i ⟨.box e, y⟩ fun w => putR g d s ⟨.ptr (s :: (q ++ [0]) ++ p) 0 0 1 [], (0 : Int)⟩ w [] K
        | v => lookV d (s :: (q ++ [0]) ++ p) v (fun us => K us [])) else none else none)
  | .ldT d a sz ag => ptrK g (gp g a) fun s q _ _ _ p _ r _ => bif hasIdx p then none else getK r.T r.x ((q ++ [0]) ++ p) 0 fun v =>
      bif v.T.closed && !v.T.pure && Nat.beq v.T.size sz && bbeq v.T.agg ag && Nat.beq v.T.size 1 then setK r.T r.x ((q ++ [0]) ++ p) 0 ⟨.any, ()⟩ fun w => putR g d s v w [s :: (q ++ [0]) ++ p] K else none
  | .st a o sz => (match opv g o with
    | some v => ptrK g (gp g a) fun s q _ _ _ p i r C => bif v.T.pure && Nat.beq v.T.size sz then (match tyAt C p with
        | some T => setK r.T r.x ((q ++ [0]) ++ p) i v fun w => K [(s, some w)] (bif T.pure then [] else [s :: (q ++ [0]) ++ p])
        | none => none) else none
    | none => none)
  | .stS a o sz => (match opv g o with
    | some v => ptrK g (gp g a) fun s q _ _ _ p i r C => bif v.T.pure && Nat.beq v.T.size sz then (match tyAt C p with
        | some T => setK r.T r.x ((q ++ [0]) ++ p) i v fun w => K [(s, some w)] (bif T.pure then [] else [s :: (q ++ [0]) ++ p])
        | none => none) else none
    | none => none)
  | .stT a k sz => (match g k with
    | some v => ptrK g (gp g a) fun s q _ _ _ p _ r _ => bif v.T.closed && v.T.hard && !hasIdx p && !Nat.beq k s && Nat.beq v.T.size sz then
        setK r.T r.x ((q ++ [0]) ++ p) 0 v fun w => K [(s, some w), (k, none)] [[k], s :: (q ++ [0]) ++ p] else none
    | none => none)
  | .alloc d z => bif z.T.closed && z.T.solid then put g d ⟨.box z.T, z.x⟩ K else none
  | .boxv d a => (match opv g a with
    | some v => bif v.T.pure then put g d ⟨.box v.T, v.x⟩ K else none
    | none => none)
  | .boxT d s => (match g s with
    | some v => bif v.T.closed && v.T.solid && fresh g d && !Nat.beq d s then K [(d, some ⟨.box v.T, v.x⟩), (s, none)] [[s]] else none
    | none => none)
  | .crefv d a => (match opv g a with
    | some v => bif v.T.pure then put g d ⟨.cref v.T, v.x⟩ K else none
    | none => none)
  | .fa d a n off => (match gp g a with
    | some ⟨.cref e, x⟩ => (match fieldV e x n, fieldAt e n with
      | some v, some (o, _) => bif Nat.beq o off then put g d ⟨.cref v.T, v.x⟩ K else none
      | _, _ => none)
    | some ⟨.vref u e, x⟩ => (match fieldV e x n, fieldAt e n with
      | some v, some (o, _) => bif Nat.beq o off then put g d ⟨.vref u v.T, v.x⟩ K else none
      | _, _ => none)
    | some ⟨.eref u e o p, i⟩ => (match tyAt e p, offAt e p with
      | some T, some (o', _, _) => (match fieldAt T n with
        | some (o2, _, qq) => bif Nat.beq o2 off && Nat.beq o' o && !hasIdx p then put g d ⟨.eref u e (o + o2) (p ++ qq), i⟩ K else none
        | none => none)
      | _, _ => none)
    | v => ptrK g v fun s q po str m p i _ C => (match tyAt C p with
      | some T => (match fieldAt T n with
        | some (o, _, qq) => bif Nat.beq o off then put g d ⟨.ptr (s :: q) (po + o) str m (p ++ qq), i⟩ K else none
        | none => none)
      | none => none))
  | .fld d a n off sz ag => (match opv g a with
    | some v => bif v.T.pure then (match fieldV v.T v.x n, fieldAt v.T n with
        | some u, some (o, _) => bif Nat.beq o off && Nat.beq u.T.size sz && bbeq u.T.agg ag then put g d u K else none
        | _, _ => none) else none
    | none => none)
  | .build d z ps => bif fresh g d && z.T.closed then buildK g z ps [] fun v l => bif l.contains d || (v.T.pure && !l.isEmpty) then none else K ((d, some v) :: none2 l) (tags1 l) else none
  | .bsl d e ps => (match opvs g e ps with
    | some l => bif e.pure then put g d ⟨.slX .S e, l⟩ K else none
    | none => none)
  | .slc d a lo hi mx es => (match gpo g a, optOpd g 0 lo with
    | some ⟨.str, x⟩, some l => (match optOpd g (List.length (α := Int) x : Int) hi, mx with
      | some h, none => bif Nat.beq es 0 then sliceK l h (List.length (α := Int) x) (put g d ⟨.str, cut (α := Int) x l h⟩ K) else none
      | _, _ => none)
    | some ⟨.slB z c e, x⟩, some l => (match optOpd g (List.length (α := e.den) x : Int) hi, mx with
      | some h, none => bif Nat.beq e.size es && Nat.ble 1 es then sliceK l h (List.length (α := e.den) x) (put g d ⟨.slB (zipNm z) (c && hi.isNone) e, cut (α := e.den) x l h⟩ K) else none
      | some h, some m => (match opI g m with
        | some (_, m) => bif Nat.beq e.size es && Nat.ble 1 es then eqK m h (sliceK l h (List.length (α := e.den) x) (put g d ⟨.slB (zipNm z) true e, cut (α := e.den) x l h⟩ K)) else none
        | none => none)
      | _, _ => none)
    | some ⟨.slV z u e, x⟩, some l => (match optOpd g (List.length (α := e.den) x : Int) hi, mx with
      | some h, none => bif Nat.beq e.size es && Nat.ble 1 es then sliceK l h (List.length (α := e.den) x) (put g d ⟨.slV (zipNm z) u e, cut (α := e.den) x l h⟩ K) else none
      | _, _ => none)
    | _, _ => none)
  | .slcX d s hi es => (match g s, opI g hi with
    | some ⟨.slX z e, x⟩, some (_, h) => bif fresh g d && !Nat.beq d s && Nat.beq e.size es && Nat.ble 1 es then
        sliceK 0 h (List.length (α := e.den) x) (K [(d, some ⟨.slX (zipNm z) e, List.take (α := e.den) h.toNat x⟩), (s, none)] [[s]]) else none
    | _, _ => none)
  | .app d s b eb es => (match g s, gpo g b with
    | some ⟨.slX z e, x⟩, some v => bif fresh g d && !Nat.beq d s && Nat.ble 1 eb && Nat.beq e.size es then (match elems e v with
        | some y => appK (List.length (α := e.den) x) y.length eb (K [(d, some ⟨.slX z e, List.append (α := e.den) x y⟩), (s, none)] [[s]])
        | none => none) else none
    | _, _ => none)
  | .appC d a b eb es => (match gpo g a, gpo g b with
    | some ⟨.slB _ true e, x⟩, some v => bif Nat.ble 1 eb && Nat.beq e.size es then (match elems e v with
        | some y => bif y.isEmpty then none else appK (List.length (α := e.den) x) y.length eb (put g d ⟨.slX .S e, List.append (α := e.den) x y⟩ K)
        | none => none) else none
    | _, _ => none)
  | .mk d z n c eb => (match opI g n, opI g c with
    | some (_, n), some (_, c) => bif z.T.pure && Nat.ble 1 eb then mkK n c eb (put g d ⟨.slX .S z.T, List.replicate n.toNat z.x⟩ K) else none
    | _, _ => none)
  | .ext d a n => (match g a with
    | some ⟨.tup T, x⟩ => (match fieldV T x n with
      | some v => bif v.T.pure then put g d v K else bif v.T.closed then (match setF T x n ⟨.any, ()⟩ with
          | some w => putR g d a v ⟨.tup w.T, w.x⟩ [a :: 6 :: List.replicate n 2 ++ [1]] K
          | none => none) else none
      | none => none)
    | _ => none)
  | .pick d c a b => (match opv g c, opv g a, opv g b with
    | some ⟨.bool, c⟩, some ⟨.bool, x⟩, some ⟨.bool, y⟩ => put g d ⟨.bool, bif (c : Bool) then (x : Bool) else (y : Bool)⟩ K
    | _, _, _ => none)
  | .pickG d c a b l => (match opv g c with
    | some ⟨.bool, c⟩ => bif fresh g d && !memN l d then optM (match (bif (c : Bool) then opv g a else opv g b) with
        | some ⟨.bool, v⟩ => some (v : Bool)
        | _ => none) none fun v => K ((d, some ⟨.bool, v⟩) :: none2 l) (tags1 l) else none
    | _ => none)
  | .nilchk d o => (match gpo g o with
    | some ⟨.ptr u off str n p, i⟩ => put g d ⟨.ptr u off str n p, i⟩ K
    | some ⟨.cref e, x⟩ => put g d ⟨.cref e, x⟩ K
    | some ⟨.oref e, x⟩ => optM (α := e.den) x none fun y => put g d ⟨.cref e, y⟩ K
    | some ⟨.vref u e, x⟩ => put g d ⟨.vref u e, x⟩ K
    | some ⟨.fn f c, x⟩ => bif c.pure then put g d ⟨.fn f c, x⟩ K else none
    | _ => none)
  | .eqnil d o neg sl => (match sl, gpo g o with
    | true, some ⟨.slB .N _ e, x⟩ => put g d ⟨.bool, bif neg then !(List.isEmpty (α := e.den) x) else List.isEmpty (α := e.den) x⟩ K
    | true, some ⟨.slV .N _ e, x⟩ => put g d ⟨.bool, bif neg then !(List.isEmpty (α := e.den) x) else List.isEmpty (α := e.den) x⟩ K
    | true, some ⟨.slB .U _ e, x⟩ => put g d ⟨.nb neg, List.isEmpty (α := e.den) x⟩ K
    | true, some ⟨.slV .U _ e, x⟩ => put g d ⟨.nb neg, List.isEmpty (α := e.den) x⟩ K
    | true, some ⟨.slB .S _ _, _⟩ => put g d ⟨.bool, neg⟩ K
    | true, some ⟨.slV .S _ _, _⟩ => put g d ⟨.bool, neg⟩ K
    | true, some ⟨.nil 0, _⟩ => put g d ⟨.bool, !neg⟩ K
    | false, some ⟨.nil 1, _⟩ => put g d ⟨.bool, !neg⟩ K
    | false, some ⟨.ptr _ _ _ _ _, _⟩ => put g d ⟨.bool, neg⟩ K
    | false, some ⟨.cref _, _⟩ => put g d ⟨.bool, neg⟩ K
    | false, some ⟨.oref e, x⟩ => put g d ⟨.bool, bif neg then Option.isSome (α := e.den) x else Option.isNone (α := e.den) x⟩ K
    | false, some ⟨.opt e, x⟩ => put g d ⟨.bool, bif neg then Option.isSome (α := e.den) x else Option.isNone (α := e.den) x⟩ K
    | _, _ => none)
  | .call d sp as => callEv g d sp as K
  | .callT d sp as lt => callEv g d sp as fun us ks => bif sameT g d us && belowT lt ks then K us ks else none
  | .callV d sp s N as => (match g s with
    | some ⟨.fn f C, x⟩ => bif Nat.beq f sp.f && C.pure && capsOk C then callEv (withCaps g N C x) d sp (as ++ capArgs N C) fun us ks => bif allLt N us then K us ks else none else none
    | _ => none)
  | .mkfp d f s => (match gp g s with
    | some ⟨.ptr u o st _ _, _⟩ => bif Nat.beq o 0 && Nat.beq st 0 then put g d ⟨.fnp f u, ()⟩ K else none
    | _ => none)
  | .callF d sp s N as => (match g s with
    | some ⟨.fnp f u, _⟩ => bif Nat.beq f sp.f then callEv (withCaps g N (.pair (.ptr u 0 0 1 []) .unit) ((0 : Int), ())) d sp (as ++ [.l N]) fun us ks => bif allLt N us then K us ks else none else none
    | _ => none)
  | .capN d a => (match opv g a with
    | some ⟨.nil 0, _⟩ => put g d ⟨.int .i64, (0 : Int)⟩ K
    | some ⟨.slB _ true e, x⟩ => put g d ⟨.int .i64, (List.length (α := e.den) x : Int)⟩ K
    | _ => none)
  | .slcN d a lo hi _ => (match opv g a, optOpd g 0 lo, optOpd g 0 hi with
    | some ⟨.nil 0, _⟩, some l, some h => sliceK l h 0 (put g d ⟨.nil 0, ()⟩ K)
    | _, _, _ => none)
  | .appZ d a n z eb => (match opv g a, opI g n with
    | some ⟨.nil 0, _⟩, some (_, n) => bif z.T.pure && Nat.ble 1 eb then geK n (appK 0 n.toNat eb (put g d ⟨.slX .N z.T, List.replicate n.toNat z.x⟩ K)) else none
    | _, _ => none)
  | .slcT d s lo es => (match g s, opI g lo with
    | some ⟨.slA _ u e, x⟩, some (_, l) => bif Nat.beq e.size es && Nat.ble 1 es then sliceK l (List.length (α := e.den) x : Int) (List.length (α := e.den) x) (put g d ⟨.slT u e, (l, (List.length (α := e.den) x : Int) - l)⟩ K) else none
    | _, _ => none)
  | .clr s z _ => (match g s with
    | some ⟨.slT [r] e, p⟩ => (match g r with
      | some ⟨.slX n e', x⟩ => if h : e'.beq e = true then (if h' : z.T.beq e = true then eqK ((p : Int × Int).1 + (p : Int × Int).2) (List.length (α := e.den) (castL h x) : Int)
          (bif !e.pure || !Nat.ble 1 e.size then none else K [(r, some ⟨.slX n e, List.append (α := e.den) (List.take (α := e.den) (p : Int × Int).1.toNat (castL h x)) (List.replicate (p : Int × Int).2.toNat (Ty.cast h' z.x))⟩)] [[r]]) else none) else none
      | _ => none)
    | _ => none)
  | .mkmap d k v => bif keyT k && v.pure then put g d ⟨.map k v, ([] : List (k.den × v.den))⟩ K else none
  | .alsM d s => (match g s with
    | some ⟨.map _ _, _⟩ => put g d ⟨.mref [s], ()⟩ K
    | _ => none)
  | .mset a b c k' v' => mrefK g a fun s k v x => bif !(k.beq k') || !(v.beq v') || !v.pure then none else (match opv g b, opv g c with
    | some y, some z => if h : y.T.beq k = true then (if h' : z.T.beq v = true then K [(s, some ⟨.map k v, mapSet k (Ty.cast h y.x) (Ty.cast h' z.x) x⟩)] [[s]] else none) else none
    | _, _ => none)
  | .mget d a b k' z => mrefK g a fun _ k v x => bif !(k.beq k') || !v.pure then none else (match opv g b with
    | some y => if h : y.T.beq k = true then (if h' : z.T.beq v = true then optM (mapGet k (Ty.cast h y.x) x) (put g d ⟨v, Ty.cast h' z.x⟩ K) (fun u => put g d ⟨v, u⟩ K) else none) else none
    | none => none)
  | .shp d o u => (match shV g o with
    | some v => bif looksAt v u then put g d v K else none
    | none => none)
  | .mkfn d f cs => bif fresh g d then capsK g cs [] fun c l => bif l.contains d then none else K ((d, some ⟨.fn f c.T, c.x⟩) :: fzS g l) (tags1 l) else none
  | .mnx d mx a b => (match opI g a, opI g b with
    | some (k, x), some (j, y) => bif Nat.beq (kn k) (kn j) then put g d ⟨.int k, bif mx then imax x y else imin x y⟩ K else none
    | _, _ => none)
  | .rng d a => (match opv g a with
    | some ⟨.str, x⟩ => put g d ⟨.siter, ((x : List Int), (0 : Int))⟩ K
    | _ => none)
  | .nxt d s => (match g s with
    | some ⟨.siter, x⟩ => (let p : List Int × Int := x; bif fresh g d && !Nat.beq d s then (bif decide (p.2 < (p.1.length : Int)) then
        K [(d, some ⟨.tup (.pair .bool (.pair (.int .i64) (.pair (.int .i32) .unit))), (true, p.2, (decL p.1 p.2).1, ())⟩), (s, some ⟨.siter, (p.1, p.2 + (decL p.1 p.2).2)⟩)] [[s]]
        else K [(d, some ⟨.tup (.pair .bool .unit), (false, ())⟩)] []) else none)
    | _ => none)
  | .coeS s T => (match g s with
    | some v => bif v.T.closed && T.closed then (match coeV v T with
        | some x => K [(s, some ⟨T, x⟩)] []
        | none => none) else none
    | none => none)
end

/-- what an operation wrote, if it wrote no more than it may -/
def okUs (A W : List Nat) : St → Bool
  | [] => true
  | (k, v) :: r => memN W k && (match v with
    | some v => okV A v
    | none => true) && okUs A W r
def okKs (W : List Nat) : List Tag → Bool
  | [] => true
  | (k :: _) :: r => memN W k && okKs W r
  | [] :: _ => false
/-- owners that were written: views of them die -/
def hk (g : Nat → Option SV) : St → List Tag
  | [] => []
  | (k, _) :: r => bif fresh g k then hk g r else [k] :: hk g r
/-- a call that says what it writes spares the other views -/
def hkO (o : XOp) (g : Nat → Option SV) (us : St) : List Tag := match o with
  | .callT _ _ _ _ => []
  | .stS _ _ _ => []
  | _ => hk g us
def freshL (g : Nat → Option SV) : List Nat → Bool
  | [] => true
  | d :: r => fresh g d && freshL g r
def boolAt (st : St) (s : Nat) : Option Bool := match st.get s with
  | some ⟨.bool, v⟩ => some v
  | _ => none
/-- c && s, c || s -/
def grpK (want c : Bool) (s : Option Bool) : Option Bool := bif want then (bif c then s else some false) else (bif c then some true else s)
def grpB {α : Type} (want c : Bool) (a b : α) : α := bif want then (bif c then a else b) else (bif c then b else a)
theorem grpB_eq {α : Type} (want c : Bool) (a b : α) : grpB want c a b = bif bbeq c want then a else b := by cases want <;> cases c <;> rfl
def evI : XI → {R : Type} → St → (St → Option R) → Option R
  | .nil, _, st, K => K st
  | .op o none r, _, st, K => evOp st.get (fun us ks => evI r (st.upd us ks) K) o
  | .op o (some (A, W)) r, _, st, K => evOp (keepSt st A).get (fun us ks => bif okUs A W us && okKs W ks then evI r (st.upd us (ks ++ hkO o (keepSt st A).get us)) K else none) o
  | .grp j want b res d l r, _, st, K => match st.get j with
    | some ⟨.bool, c⟩ => bif freshL st.get l && fresh st.get d && !memN l d then
        (grpK want c (evI b (R := Bool) st fun st' => boolAt st' res)).bind fun v => evI r (st.upd ((d, some ⟨.bool, v⟩) :: none2 l) (tags1 l)) K
      else none
    | _ => none
  | .grpS j want b res d l ex r, _, st, K => match st.get j with
    | some ⟨.bool, c⟩ => bif freshL st.get l && fresh st.get d && !memN l d && !memN ex d then
        (grpB want c (evI b st fun st' => (match boolAt st' res with
          | some v => evI r (st'.upd ((d, some ⟨.bool, v⟩) :: none2 l) (tags1 l)) K
          | none => none)) (evI r (st.upd ((d, some ⟨.bool, !want⟩) :: none2 l) (tags1 l)) K))
      else none
    | _ => none

/-- two ways that must come to the same -/
noncomputable def both {R : Type} (a b : Option R) : Option R := open Classical in if a = b then a else none
/-- what is done with a state alone -/
inductive Gh where
  | keep (l : List Nat)
  | coe (s : Nat) (T : Ty)
  | split (s : Nat) (p : Tag)      -- is the pointer there nil?
/-- the same, behind a pointer: what is nil is of that type -/
def spN {R : Type} : (T : Ty) → T.den → Tag → (SV → Option R) → Option R
  | .opt e, x, [], K => optM (α := e.den) x (K ⟨.nil 1, ()⟩) fun y => K ⟨.box e, y⟩
  | .box e, x, 0 :: p, K => spN e x p fun w => K ⟨.box w.T, w.x⟩
  | .pair a b, x, 1 :: p, K => spN a x.1 p fun w => K ⟨.pair w.T b, (w.x, x.2)⟩
  | .pair a b, x, 2 :: p, K => spN b x.2 p fun w => K ⟨.pair a w.T, (x.1, w.x)⟩
  | T, x, _, K => K ⟨T, x⟩
def spK {R : Type} : (T : Ty) → T.den → Tag → (SV → Option R) → Option R
  | .opt e, x, [], K => optM (α := e.den) x (K ⟨.opt e, (none : Option e.den)⟩) fun y => K ⟨.box e, y⟩
  | .box e, x, 0 :: p, K => spN e x p fun w => K ⟨.box w.T, w.x⟩
  | .pair a b, x, 1 :: p, K => spK a x.1 p fun w => K ⟨.pair w.T b, (w.x, x.2)⟩
  | .pair a b, x, 2 :: p, K => spK b x.2 p fun w => K ⟨.pair a w.T, (x.1, w.x)⟩
  | T, x, _, K => K ⟨T, x⟩
def ghK {R : Type} : List Gh → St → (St → Option R) → Option R
  | [], st, K => K st
  | .keep l :: r, st, K => ghK r (keepSt st l) K
  | .coe s T :: r, st, K => match st.get s with
    | some v => bif v.T.closed && T.closed then (match coeV v T with
      | some x => ghK r ((s, some ⟨T, x⟩) :: st) K
      | none => none) else none
    | none => none
  | .split s p :: r, st, K => match st.get s with
    | some v => bif v.T.closed then spK v.T v.x p fun w => ghK r ((s, some w) :: st) K else none
    | none => none
inductive XC where
  | skip
  | reg (xi : XI)
  | regD (xi : XI)
  | seq (a b : XC)
  | cond (c : Opd) (a b : XC)
  | keep (l : List Nat) (a : XC)
  | pre (gs : List Gh) (a : XC)
  | aft (a : XC) (gs : List Gh)
  | block (id : Nat) (a : XC)
  | loop (n : Nat) (l : List Nat) (a : XC)
  | exit (id : Nat)
  | ret
  | scopeS (a : XC)                  -- a stretch of code to whose labels nobody jumps
  | scope (l : Nat) (a r : XC)      -- a stretch of code with a label; r: what comes behind the label
  | goto (l : Nat)
  | drop (a : XC)                   -- behind the label it is no goal any more
  | dead                            -- code that is never reached

section
variable {R : Type}
def loopEv (l : List Nat) (b : St → (St → Option R) → Option R) : Nat → St → Option R
  | 0, _ => none
  | n + 1, st => b (keepSt st l) fun st' => loopEv l b n st'
structure Ks (R : Type) where
  ret : St → Option R
  exits : List (Nat × (St → Option R))
def exitK : List (Nat × (St → Option R)) → Nat → St → Option R
  | [], _, _ => none
  | (k, K) :: r, id, st => bif Nat.beq k id then K st else exitK r id st
def gkey (l : Nat) : Nat := 1000000 + l
def noG : List (Nat × (St → Option R)) → Bool
  | [] => true
  | (k, _) :: r => Nat.blt k 1000000 && noG r
def dropE (E : Ks R) : Ks R :=
  { E with exits := match E.exits with
      | (k, _) :: r => (k, fun _ => none) :: r
      | [] => [] }
noncomputable def ev : XC → St → Ks R → (St → Option R) → Option R
  | .skip, st, _, K => K st
  | .reg xi, st, _, K => evI xi st K
  | .regD xi, st, _, K => evI xi st K
  | .seq a b, st, E, K => ev a st E fun st' => ev b st' E K
  | .cond c a b, st, E, K => match opv st.get c with
    | some ⟨.bool, x⟩ => bif (x : Bool) then ev a st E K else ev b st E K
    | some ⟨.nb n, x⟩ => bif (x : Bool) then both (ev a st E K) (ev b st E K) else (bif n then ev a st E K else ev b st E K)
    | _ => none
  | .keep l a, st, E, K => ev a (keepSt st l) E K
  | .pre gs a, st, E, K => ghK gs st fun st' => ev a st' E K
  | .aft a gs, st, E, K => ev a st E fun st' => ghK gs st' K
  | .block id a, st, E, K => ev a st { E with exits := (id, K) :: E.exits } K
  | .loop n l a, st, E, _ => loopEv l (fun s k => ev a s E k) n st
  | .exit id, st, E, _ => exitK E.exits id st
  | .ret, st, E, _ => E.ret st
  | .scopeS a, st, E, K => bif noG E.exits then ev a st E K else none
  | .scope l a r, st, E, K => bif noG E.exits then ev a st { E with exits := (gkey l, fun st' => ev r st' { E with exits := (gkey l, fun _ => none) :: E.exits } K) :: E.exits } K else none
  | .goto l, st, E, _ => exitK E.exits (gkey l) st
  | .drop a, st, E, K => ev a st (dropE E) K
  | .dead, _, _, _ => none
end

/-! a function: its results, and what was lent -/
inductive RV where
  | t (s : Nat)
  | c (s sz : Nat) (ag : Bool)      -- a result that lies in memory
def resV (g : Nat → Option SV) : RV → Option SV
  | .t s => g s
  | .c s sz ag => match g s with
    | some ⟨.box e, x⟩ => bif Nat.beq e.size sz && bbeq e.agg ag && e.closed then some ⟨e, x⟩ else none
    | _ => none
def RV.slot : RV → Nat
  | .t s => s
  | .c s _ _ => s
def RV.isT : RV → Bool
  | .t _ => true
  | .c _ _ _ => false
/-- results: what is owned is given once -/
def resVs (g : Nat → Option SV) : List Nat → List RV → Option SV
  | _, [] => some ⟨.unit, ()⟩
  | u, a :: r => match resV g a, resVs g (a.slot :: u) r with
    | some v, some w => bif (a.isT && v.T.pure) || !memN u a.slot then some ⟨.pair v.T w.T, (v.x, w.x)⟩ else none
    | _, _ => none
def resAll (g : Nat → Option SV) (u : List Nat) : List RV → Option SV
  | [a] => match resV g a with
    | some v => bif (a.isT && v.T.pure) || !memN u a.slot then some v else none
    | none => none
  | l => match resVs g u l with
    | some v => some ⟨.tup v.T, v.x⟩
    | none => none
def lentOf : Nat → List (Ty × Bool) → List Nat
  | _, [] => []
  | i, (_, true) :: r => i :: lentOf (i + 1) r
  | i, (_, false) :: r => lentOf (i + 1) r
def finK (g : Nat → Option SV) : (i : Nat) → (ps : List (Ty × Bool)) → (r : Ty) → r.den → Option (rtOf ps r).den
  | _, [], _, x => some x
  | i, (T, true) :: ps, r, x => match g i, finK g (i + 1) ps r x with
    | some v, some y => (match coeV v T with
      | some z => some (z, y)
      | none => none)
    | _, _ => none
  | i, (_, false) :: ps, r, x => finK g (i + 1) ps r x
def retK (rs : List RV) (ps : List (Ty × Bool)) (r : Ty) (st : St) : Option (rtOf ps r).den :=
  match resAll st.get (lentOf 0 ps) rs with
  | some v => bif v.T.closed then (match coeV v r with
      | some x => finK st.get 0 ps r x
      | none => none) else none
  | none => none
def initSt : (i : Nat) → (ps : List (Ty × Bool)) → (chain ps).den → St
  | _, [], _ => []
  | i, (T, _) :: ps, x => (i, some ⟨T, x.1⟩) :: initSt (i + 1) ps x.2
noncomputable def evFn (c : XC) (rs : List RV) (ps : List (Ty × Bool)) (r : Ty) (x : (chain ps).den) : Option (rtOf ps r).den :=
  ev c (initSt 0 ps x) { ret := retK rs ps r, exits := [] } (retK rs ps r)
end Go.Proofs.Bw
namespace Go.Proofs.Bw
open Go

def Sg.le (σ σ' : Sg) : Prop := ∀ b j v, σ b j = some v → σ' b j = some v
theorem Sg.le_refl (σ : Sg) : σ.le σ := fun _ _ _ h => h
theorem Sg.le_trans {a b c : Sg} (h : a.le b) (k : b.le c) : a.le c := fun _ _ _ e => k _ _ _ (h _ _ _ e)

theorem EList.imp {α : Type} {R S : α → List Value → Prop} : ∀ {xs : List α} {cs : List Value}, (∀ x c, R x c → S x c) → EList R xs cs → EList S xs cs
  | [], _, _, h => h
  | _ :: _, _, k, ⟨c, d, e, h1, h2⟩ => ⟨c, d, e, k _ _ h1, EList.imp k h2⟩
theorem EList.length {α : Type} {R : α → List Value → Prop} {n : Nat} (k : ∀ x c, R x c → c.length = n) : ∀ {xs : List α} {cs : List Value}, EList R xs cs → cs.length = xs.length * n
  | [], _, h => by rw [show _ = [] from h]; simp
  | x :: xs, _, ⟨c, d, e, h1, h2⟩ => by rw [e, List.length_append, k _ _ h1, EList.length k h2, List.length_cons, Nat.add_mul]; omega
theorem EMap.imp {α β : Type} {R R' : α → Value → Prop} {S S' : β → Value → Prop} (k : ∀ x v, R x v → R' x v) (l : ∀ x v, S x v → S' x v) :
    ∀ {xs : List (α × β)} {es : List MapEntry}, EMap R S xs es → EMap R' S' xs es
  | [], _, h => h
  | _ :: _, _, ⟨e, r, h, h1, h2, h3⟩ => ⟨e, r, h, k _ _ h1, l _ _ h2, EMap.imp k l h3⟩

theorem Blk.tag_withTag (b : Blk) (t : Tag) : (b.withTag t).tag = t := by cases b <;> rfl

theorem Rel.length {σ : Sg} {h : Hp} : ∀ {T : Ty} {x : T.den} {cs : List Value} {t : Tag}, Rel σ h T false x cs t → cs.length = T.size := by
  intro T
  induction T with
  | pair a b iha ihb =>
    intro x cs t hr
    simp only [Rel] at hr
    obtain ⟨c, d, e, h1, h2⟩ := hr
    rw [e, List.length_append, iha h1, ihb h2]; rfl
  | arr n e ih =>
    intro x cs t hr
    simp only [Rel] at hr
    rw [EList.length (fun _ _ h => ih h) hr.2, hr.1]; rfl
  | unit => intro x cs t hr; simp only [Rel] at hr; rw [hr]; rfl
  | int k => intro x cs t hr; simp only [Rel] at hr; rw [hr.1]; rfl
  | bool => intro x cs t hr; simp only [Rel] at hr; rw [hr]; rfl
  | str => intro x cs t hr; simp only [Rel] at hr; obtain ⟨s, e, _⟩ := hr; rw [e]; rfl
  | slB z cl e ih => intro x cs t hr; simp only [Rel] at hr; obtain ⟨_, _, _, e, _⟩ := hr; rw [e]; rfl
  | slX z e ih => intro x cs t hr; simp only [Rel] at hr; obtain ⟨_, _, _, e, _⟩ := hr; rw [e]; rfl
  | slV z u e ih => intro x cs t hr; simp only [Rel] at hr; obtain ⟨_, _, _, e, _⟩ := hr; rw [e]; rfl
  | box e ih => intro x cs t hr; simp only [Rel] at hr; obtain ⟨_, _, e, _⟩ := hr; rw [e]; rfl
  | opt e ih =>
    intro x cs t hr
    cases x with
    | none => simp only [Rel] at hr; rw [hr]; rfl
    | some y => simp only [Rel] at hr; obtain ⟨_, _, e, _⟩ := hr; rw [e]; rfl
  | ptr u o s n p => intro x cs t hr; simp only [Rel] at hr; obtain ⟨_, _, e, _⟩ := hr; rw [e]; rfl
  | cref e ih => intro x cs t hr; simp only [Rel] at hr; obtain ⟨_, _, e, _⟩ := hr; rw [e]; rfl
  | oref e ih =>
    intro x cs t hr
    cases x with
    | none => simp only [Rel] at hr; rw [hr]; rfl
    | some y => simp only [Rel] at hr; obtain ⟨_, _, e, _⟩ := hr; rw [e]; rfl
  | vref u e ih => intro x cs t hr; simp only [Rel] at hr; obtain ⟨_, _, _, e, _⟩ := hr; rw [e]; rfl
  | fn f c ih => intro x cs t hr; simp only [Rel] at hr; obtain ⟨_, e, _⟩ := hr; rw [e]; rfl
  | ifc u e ih => intro x cs t hr; simp only [Rel] at hr; obtain ⟨_, _, e, _⟩ := hr; rw [e]; rfl
  | tup a ih => intro x cs t hr; simp only [Rel] at hr; obtain ⟨_, e, _⟩ := hr; rw [e]; rfl
  | nil k => intro x cs t hr; simp only [Rel] at hr; rw [hr]; rfl
  | map k v _ _ => intro x cs t hr; simp only [Rel] at hr; obtain ⟨_, _, _, e, _⟩ := hr; rw [e]; rfl
  | any => intro x cs t hr; simp only [Rel] at hr; obtain ⟨_, e⟩ := hr; rw [e]; rfl
  | siter => intro x cs t hr; simp only [Rel] at hr; obtain ⟨_, _, e, _⟩ := hr; rw [e]; rfl
  | mref u => intro x cs t hr; simp only [Rel] at hr; obtain ⟨_, _, _, e, _⟩ := hr; rw [e]; rfl
  | fnp f u => intro x cs t hr; simp only [Rel] at hr; obtain ⟨_, _, e, _⟩ := hr; rw [e]; rfl
  | slT u e ih => intro x cs t hr; simp only [Rel] at hr; obtain ⟨_, _, e, _⟩ := hr; rw [e]; rfl
  | slA z u e ih => intro x cs t hr; simp only [Rel] at hr; obtain ⟨_, _, _, e, _⟩ := hr; rw [e]; rfl
  | eref u e o p ih => intro x cs t hr; simp only [Rel] at hr; obtain ⟨_, _, e, _⟩ := hr; rw [e]; rfl
  | nb k => intro x cs t hr; simp only [Rel] at hr; obtain ⟨_, e, _⟩ := hr; rw [e]; rfl

/-- plain data: whatever is owned, wherever it stands -/
theorem Rel.pure {σ σ' : Sg} {h h' : Hp} (hσ : σ.le σ') : ∀ {T : Ty} {m : Bool} {x : T.den} {cs : List Value} {t t' : Tag}, T.pure = true → Rel σ h T m x cs t → Rel σ' h' T m x cs t' := by
  intro T
  induction T with
  | pair a b iha ihb =>
    intro m x cs t t' hp hr
    simp only [Ty.pure, Bool.and_eq_true] at hp
    cases m with
    | false =>
      simp only [Rel] at hr ⊢
      obtain ⟨c, d, e, h1, h2⟩ := hr
      exact ⟨c, d, e, iha hp.1 h1, ihb hp.2 h2⟩
    | true =>
      simp only [Rel] at hr ⊢
      obtain ⟨v, d, e, ⟨c, hw, h1⟩, h2⟩ := hr
      exact ⟨v, d, e, ⟨c, hw, iha hp.1 h1⟩, ihb hp.2 h2⟩
  | arr n e ih =>
    intro m x cs t t' hp hr
    simp only [Rel, Ty.pure] at hr hp ⊢
    exact ⟨hr.1, hr.2.imp fun _ _ k => ih hp k⟩
  | unit => intro m x cs t t' _ hr; simp only [Rel] at hr ⊢; exact hr
  | int k => intro m x cs t t' _ hr; simp only [Rel] at hr ⊢; exact hr
  | bool => intro m x cs t t' _ hr; simp only [Rel] at hr ⊢; exact hr
  | str => intro m x cs t t' _ hr; simp only [Rel] at hr ⊢; exact hr
  | nil k => intro m x cs t t' _ hr; simp only [Rel] at hr ⊢; exact hr
  | slB z cl e ih =>
    intro m x cs t t' hp hr
    simp only [Rel, Ty.pure] at hr hp ⊢
    obtain ⟨a, len, cap, h1, h2, h3, h4, d, h5, h6⟩ := hr
    refine ⟨a, len, cap, h1, h2, h3, h4, d, h5.imp fun _ _ k => ih hp k, fun hd => ?_⟩
    obtain ⟨b, off, e1, e2⟩ := h6 hd
    exact ⟨b, off, e1, fun j v hj => hσ _ _ _ (e2 j v hj)⟩
  | cref e ih =>
    intro m x cs t t' hp hr
    simp only [Rel, Ty.pure] at hr hp ⊢
    obtain ⟨b, off, h1, d, h2, h3⟩ := hr
    exact ⟨b, off, h1, d, ih hp h2, fun j v hj => hσ _ _ _ (h3 j v hj)⟩
  | oref e ih =>
    intro m x cs t t' hp hr
    cases x with
    | none => simp only [Rel] at hr ⊢; exact hr
    | some y =>
      simp only [Rel, Ty.pure] at hr hp ⊢
      obtain ⟨b, off, h1, d, h2, h3⟩ := hr
      exact ⟨b, off, h1, d, ih hp h2, fun j v hj => hσ _ _ _ (h3 j v hj)⟩
  | fn f c ih =>
    intro m x cs t t' hp hr
    simp only [Rel, Ty.pure] at hr hp ⊢
    obtain ⟨vs, h1, h2⟩ := hr
    exact ⟨vs, h1, ih hp h2⟩
  | ifc u e ih =>
    intro m x cs t t' hp hr
    simp only [Rel, Ty.pure] at hr hp ⊢
    obtain ⟨v, c, h1, hw, h2⟩ := hr
    exact ⟨v, c, h1, hw, ih hp h2⟩
  | nb k => intro m x cs t t' _ hr; simp only [Rel] at hr ⊢; exact hr
  | _ => intro m x cs t t' hp; simp [Ty.pure] at hp

theorem Ty.closed_of_pure : ∀ {T : Ty}, T.pure = true → T.closed = true := by
  intro T
  induction T with
  | pair a b iha ihb => intro h; simp only [Ty.pure, Ty.closed, Bool.and_eq_true] at h ⊢; exact ⟨iha h.1, ihb h.2⟩
  | fn f c ih => intro h; simp only [Ty.pure, Ty.closed] at h ⊢; exact ih h
  | ifc u e ih => intro h; simp only [Ty.pure, Ty.closed] at h ⊢; exact ih h
  | _ => intro h; first | rfl | exact h | (simp [Ty.pure] at h)

/-- the blocks below t go below t' -/
def Goes (h h' : Hp) (t t' : Tag) : Prop := ∀ b blk r, h b = some blk → blk.tag = t ++ r → h' b = some (blk.withTag (t' ++ r))
theorem Goes.sub {h h' : Hp} {t t' : Tag} (H : Goes h h' t t') (q : Tag) : Goes h h' (t ++ q) (t' ++ q) := by
  intro b blk r hb ht
  have := H b blk (q ++ r) hb (by rw [ht, List.append_assoc])
  rw [this, List.append_assoc]
theorem Goes.at {h h' : Hp} {t t' : Tag} (H : Goes h h' t t') {b : Nat} {cs : List Value} (hb : h b = some (.cells cs t)) : h' b = some (.cells cs t') := by
  have := H b _ [] hb (by simp [Blk.tag])
  simpa [Blk.withTag] using this
theorem Goes.atRow {h h' : Hp} {t t' : Tag} (H : Goes h h' t t') {b : Nat} {cs : List Value} (hb : h b = some (.row cs t)) : h' b = some (.row cs t') := by
  have := H b _ [] hb (by simp [Blk.tag])
  simpa [Blk.withTag] using this
theorem Goes.atMap {h h' : Hp} {t t' : Tag} (H : Goes h h' t t') {b : Nat} {o : Obj} (hb : h b = some (.obj o t)) : h' b = some (.obj o t') := by
  have := H b _ [] hb (by simp [Blk.tag])
  simpa [Blk.withTag] using this

theorem Rel.move {σ σ' : Sg} {h h' : Hp} (hσ : σ.le σ') : ∀ {T : Ty} {m : Bool} {x : T.den} {cs : List Value} {t t' : Tag}, T.closed = true → Goes h h' t t' → Rel σ h T m x cs t → Rel σ' h' T m x cs t' := by
  intro T
  induction T with
  | pair a b iha ihb =>
    intro m x cs t t' hp H hr
    simp only [Ty.closed, Bool.and_eq_true] at hp
    cases m with
    | false =>
      simp only [Rel] at hr ⊢
      obtain ⟨c, d, e, h1, h2⟩ := hr
      exact ⟨c, d, e, iha hp.1 (H.sub _) h1, ihb hp.2 (H.sub _) h2⟩
    | true =>
      simp only [Rel] at hr ⊢
      obtain ⟨v, d, e, ⟨c, hw, h1⟩, h2⟩ := hr
      exact ⟨v, d, e, ⟨c, hw, iha hp.1 (H.sub _) h1⟩, ihb hp.2 (H.sub _) h2⟩
  | arr n e ih =>
    intro m x cs t t' hp H hr
    exact Rel.pure hσ (T := .arr n e) (by simpa [Ty.pure, Ty.closed] using hp) hr
  | unit => intro m x cs t t' _ _ hr; exact Rel.pure hσ (T := .unit) rfl hr
  | int k => intro m x cs t t' _ _ hr; exact Rel.pure hσ (T := .int k) rfl hr
  | bool => intro m x cs t t' _ _ hr; exact Rel.pure hσ (T := .bool) rfl hr
  | str => intro m x cs t t' _ _ hr; exact Rel.pure hσ (T := .str) rfl hr
  | nil k => intro m x cs t t' _ _ hr; simp only [Rel] at hr ⊢; exact hr
  | slB z cl e ih => intro m x cs t t' hp _ hr; exact Rel.pure hσ (T := .slB z cl e) (by simpa [Ty.pure, Ty.closed] using hp) hr
  | oref e ih => intro m x cs t t' hp _ hr; exact Rel.pure hσ (T := .oref e) (by simpa [Ty.pure, Ty.closed] using hp) hr
  | cref e ih => intro m x cs t t' hp _ hr; exact Rel.pure hσ (T := .cref e) (by simpa [Ty.pure, Ty.closed] using hp) hr
  | slX z e ih =>
    intro m x cs t t' hp H hr
    simp only [Rel, Ty.closed] at hr hp ⊢
    obtain ⟨a, len, cap, h1, h2, h3, h4⟩ := hr
    refine ⟨a, len, cap, h1, h2, h3, h4.imp id ?_⟩
    rintro ⟨b, ch, e1, e2, e3, e4⟩
    exact ⟨b, ch, e1, H.atRow e2, e3, e4.imp fun _ _ k => Rel.pure hσ hp k⟩
  | box e ih =>
    intro m x cs t t' hp H hr
    simp only [Rel, Ty.closed] at hr hp ⊢
    obtain ⟨b, ch, e1, e2, e3⟩ := hr
    exact ⟨b, ch, e1, H.at e2, ih hp (H.sub _) e3⟩
  | opt e ih =>
    intro m x cs t t' hp H hr
    simp only [Ty.closed] at hp
    cases x with
    | none => simp only [Rel] at hr ⊢; exact hr
    | some y =>
      simp only [Rel] at hr ⊢
      obtain ⟨b, ch, e1, e2, e3⟩ := hr
      exact ⟨b, ch, e1, H.at e2, ih hp (H.sub _) e3⟩
  | fn f c ih =>
    intro m x cs t t' hp H hr
    simp only [Rel, Ty.closed] at hr hp ⊢
    obtain ⟨vs, h1, h2⟩ := hr
    exact ⟨vs, h1, ih hp (H.sub _) h2⟩
  | ifc u e ih =>
    intro m x cs t t' hp H hr
    simp only [Rel, Ty.closed] at hr hp ⊢
    obtain ⟨v, c, h1, hw, h2⟩ := hr
    exact ⟨v, c, h1, hw, ih hp (H.sub _) h2⟩
  | tup a ih =>
    intro m x cs t t' hp H hr
    simp only [Rel, Ty.closed] at hr hp ⊢
    obtain ⟨vs, h1, h2⟩ := hr
    exact ⟨vs, h1, ih hp (H.sub _) h2⟩
  | map k v _ _ =>
    intro m x cs t t' hp H hr
    simp only [Rel, Ty.closed, Bool.and_eq_true] at hr hp ⊢
    obtain ⟨b, es, clock, e1, e2, e3⟩ := hr
    exact ⟨b, es, clock, e1, H.atMap e2, e3.imp (fun _ _ ⟨c, hw, k⟩ => ⟨c, hw, Rel.pure hσ hp.1 k⟩) (fun _ _ ⟨c, hw, k⟩ => ⟨c, hw, Rel.pure hσ hp.2 k⟩)⟩
  | any => intro m x cs t t' _ _ hr; simp only [Rel] at hr ⊢; exact hr
  | siter =>
    intro m x cs t t' _ H hr
    simp only [Rel] at hr ⊢
    obtain ⟨b, s, e1, e2, e3⟩ := hr
    exact ⟨b, s, e1, H.atMap e2, e3⟩
  | nb k => intro m x cs t t' _ _ hr; simp only [Rel] at hr ⊢; exact hr
  | _ => intro m x cs t t' hp; simp [Ty.closed] at hp

/-- what looks at no shared cell -/
theorem Rel.free {σ σ' : Sg} {h : Hp} : ∀ {T : Ty} {m : Bool} {x : T.den} {cs : List Value} {t : Tag}, T.free = true → Rel σ h T m x cs t → Rel σ' h T m x cs t := by
  intro T
  induction T with
  | pair a b iha ihb =>
    intro m x cs t hp hr
    simp only [Ty.free, Bool.and_eq_true] at hp
    cases m with
    | false =>
      simp only [Rel] at hr ⊢
      obtain ⟨c, d, e, h1, h2⟩ := hr
      exact ⟨c, d, e, iha hp.1 h1, ihb hp.2 h2⟩
    | true =>
      simp only [Rel] at hr ⊢
      obtain ⟨v, d, e, ⟨c, hw, h1⟩, h2⟩ := hr
      exact ⟨v, d, e, ⟨c, hw, iha hp.1 h1⟩, ihb hp.2 h2⟩
  | arr n e ih =>
    intro m x cs t hp hr
    simp only [Rel, Ty.free] at hr hp ⊢
    exact ⟨hr.1, hr.2.imp fun _ _ k => ih hp k⟩
  | unit => intro m x cs t _ hr; simp only [Rel] at hr ⊢; exact hr
  | int k => intro m x cs t _ hr; simp only [Rel] at hr ⊢; exact hr
  | bool => intro m x cs t _ hr; simp only [Rel] at hr ⊢; exact hr
  | str => intro m x cs t _ hr; simp only [Rel] at hr ⊢; exact hr
  | nil k => intro m x cs t _ hr; simp only [Rel] at hr ⊢; exact hr
  | any => intro m x cs t _ hr; simp only [Rel] at hr ⊢; exact hr
  | siter => intro m x cs t _ hr; simp only [Rel] at hr ⊢; exact hr
  | slX z e ih =>
    intro m x cs t hp hr
    simp only [Rel, Ty.free] at hr hp ⊢
    obtain ⟨a, len, cap, h1, h2, h3, h4⟩ := hr
    refine ⟨a, len, cap, h1, h2, h3, h4.imp id ?_⟩
    rintro ⟨b, ch, e1, e2, e3, e4⟩
    exact ⟨b, ch, e1, e2, e3, e4.imp fun _ _ k => ih hp k⟩
  | box e ih =>
    intro m x cs t hp hr
    simp only [Rel, Ty.free] at hr hp ⊢
    obtain ⟨b, ch, e1, e2, e3⟩ := hr
    exact ⟨b, ch, e1, e2, ih hp e3⟩
  | opt e ih =>
    intro m x cs t hp hr
    simp only [Ty.free] at hp
    cases x with
    | none => simp only [Rel] at hr ⊢; exact hr
    | some y =>
      simp only [Rel] at hr ⊢
      obtain ⟨b, ch, e1, e2, e3⟩ := hr
      exact ⟨b, ch, e1, e2, ih hp e3⟩
  | fn f c ih =>
    intro m x cs t hp hr
    simp only [Rel, Ty.free] at hr hp ⊢
    obtain ⟨vs, h1, h2⟩ := hr
    exact ⟨vs, h1, ih hp h2⟩
  | ifc u e ih =>
    intro m x cs t hp hr
    simp only [Rel, Ty.free] at hr hp ⊢
    obtain ⟨v, c, h1, hw, h2⟩ := hr
    exact ⟨v, c, h1, hw, ih hp h2⟩
  | tup a ih =>
    intro m x cs t hp hr
    simp only [Rel, Ty.free] at hr hp ⊢
    obtain ⟨vs, h1, h2⟩ := hr
    exact ⟨vs, h1, ih hp h2⟩
  | map k v ihk ihv =>
    intro m x cs t hp hr
    simp only [Rel, Ty.free, Bool.and_eq_true] at hr hp ⊢
    obtain ⟨b, es, clock, e1, e2, e3⟩ := hr
    exact ⟨b, es, clock, e1, e2, e3.imp (fun _ _ ⟨c, hw, k⟩ => ⟨c, hw, ihk hp.1 k⟩) (fun _ _ ⟨c, hw, k⟩ => ⟨c, hw, ihv hp.2 k⟩)⟩
  | nb k => intro m x cs t _ hr; simp only [Rel] at hr ⊢; exact hr
  | _ => intro m x cs t hp; simp [Ty.free] at hp
end Go.Proofs.Bw
namespace Go.Proofs.Bw
open Go

def Blk.cells? : Blk → Option (List Value)
  | .cells cs _ => some cs
  | .row cs _ => some cs
  | .obj _ _ => none
structure Inv (w : World) (σ : Sg) (h : Hp) : Prop where
  cells : ∀ b blk cs, h b = some blk → blk.cells? = some cs → ∃ e lo hi, w.heap[b]? = some (.cells ⟨cs⟩ e (lo, hi)) ∧ (cs.length ≤ lo ∨ hi ≤ lo)
  maps : ∀ b o t, h b = some (.obj o t) → w.heap[b]? = some o
  own : ∀ b blk, h b = some blk → ∀ j, σ b j = none
  sta : ∀ b j v, σ b j = some v → w.cell? ⟨b, j, none⟩ = some v
  inj : ∀ b c x y, h b = some x → h c = some y → x.tag = y.tag → b = c

theorem Inv.lt {w : World} {σ : Sg} {h : Hp} (I : Inv w σ h) {b : Nat} {blk : Blk} (hb : h b = some blk) : b < w.heap.size := by
  have : (w.heap[b]?).isSome = true := by
    cases blk with
    | cells cs t => obtain ⟨e, lo, hi, k, _⟩ := I.cells b _ cs hb rfl; simp [k]
    | row cs t => obtain ⟨e, lo, hi, k, _⟩ := I.cells b _ cs hb rfl; simp [k]
    | obj o t => simp [I.maps b o t hb]
  exact (Array.getElem?_eq_some_iff.1 (Option.eq_some_of_isSome this)).1
theorem Inv.ltσ {w : World} {σ : Sg} {h : Hp} (I : Inv w σ h) {b j : Nat} {v : Value} (hb : σ b j = some v) : b < w.heap.size := by
  exact World.block_lt_of_cell? w ⟨b, j, none⟩ (I.sta b j v hb)
theorem cell?_eq {w w' : World} {b j : Nat} (h : w'.heap[b]? = w.heap[b]?) : w'.cell? ⟨b, j, none⟩ = w.cell? ⟨b, j, none⟩ := by
  simp [World.cell?, h]
theorem Inv.same {w w' : World} {σ : Sg} {h : Hp} (I : Inv w σ h) (hw : w'.heap = w.heap) : Inv w' σ h :=
  ⟨fun b blk cs hb hc => by rw [hw]; exact I.cells b blk cs hb hc, fun b es t hb => by rw [hw]; exact I.maps b es t hb, I.own,
   fun b j v hb => (cell?_eq (w := w) (by rw [hw])).trans (I.sta b j v hb), I.inj⟩

structure Ext (w : World) (σ : Sg) (h : Hp) (w' : World) (σ' : Sg) (h' : Hp) : Prop where
  size : w.heap.size ≤ w'.heap.size
  le : σ.le σ'
  os : w'.os = w.os
  tape : w'.tape = w.tape
  out : w'.output = w.output
  keep : ∀ b, b < w.heap.size → h b = none → w'.heap[b]? = w.heap[b]? ∧ h' b = none ∧ ∀ j, σ' b j = σ b j

theorem Ext.refl (w : World) (σ : Sg) (h : Hp) : Ext w σ h w σ h := ⟨Nat.le_refl _, σ.le_refl, rfl, rfl, rfl, fun _ _ hb => ⟨rfl, hb, fun _ => rfl⟩⟩
theorem Ext.trans {w1 w2 w3 : World} {σ1 σ2 σ3 : Sg} {h1 h2 h3 : Hp} (a : Ext w1 σ1 h1 w2 σ2 h2) (b : Ext w2 σ2 h2 w3 σ3 h3) : Ext w1 σ1 h1 w3 σ3 h3 :=
  ⟨Nat.le_trans a.size b.size, Sg.le_trans a.le b.le, b.os.trans a.os, b.tape.trans a.tape, b.out.trans a.out, fun c hc hn => by
    obtain ⟨x1, x2, x3⟩ := a.keep c hc hn
    obtain ⟨y1, y2, y3⟩ := b.keep c (Nat.lt_of_lt_of_le hc a.size) x2
    exact ⟨y1.trans x1, y2, fun j => (y3 j).trans (x3 j)⟩⟩
theorem Ext.same {w w' : World} (σ : Sg) (h : Hp) (hw : w'.heap = w.heap) (ho : w'.os = w.os) (ht : w'.tape = w.tape) (hu : w'.output = w.output) : Ext w σ h w' σ h :=
  ⟨by rw [hw]; exact Nat.le_refl _, σ.le_refl, ho, ht, hu, fun _ _ hb => ⟨by rw [hw], hb, fun _ => rfl⟩⟩

def Ty.okTop (T : Ty) : Bool :=
  match T with
  | .slV _ _ e => e.pure
  | .vref _ e => e.pure
  | .ptr _ _ _ _ _ => true
  | .slA _ _ e => e.pure
  | .mref _ => true
  | .fnp _ _ => true
  | .slT _ _ => true
  | .eref _ _ _ _ => true
  | T => T.closed

/-- a slot that owns what lies below its tag -/
def Owns (st : St) (k : Nat) : Prop := ∃ v, st.get k = some v ∧ v.T.pure = false ∧ v.T.closed = true

structure SRel (σ : Sg) (h : Hp) (st : St) (tm : Array Value) (w : World) : Prop where
  inv : Inv w σ h
  vals : ∀ s v, st.get s = some v → s < tm.size ∧ VRel σ h v.T v.x (tm.getD s undef) [s]
  typ : ∀ s v, st.get s = some v → v.T.okTop = true
  look : ∀ s v u, st.get s = some v → v.T.looks = some u → ∃ k r, u = k :: r ∧ Owns st k
  own : ∀ b blk, h b = some blk → ∃ k r, blk.tag = k :: r ∧ Owns st k

theorem not_owns_of_fresh {st : St} {d : Nat} (h : fresh st.get d = true) : ¬ Owns st d := by
  rintro ⟨v, hv, hp, hc⟩
  simp only [fresh, hv, hp, Bool.false_or] at h
  revert h hc
  cases v.T <;> simp [Ty.looks, Ty.closed]

theorem get_cons {d : Nat} {v : Option SV} {st : St} {s : Nat} : St.get ((d, v) :: st) s = if d = s then v else st.get s := by
  simp only [St.get]
  by_cases h : d = s
  · rw [if_pos h, h]; simp
  · rw [if_neg h]
    have : Nat.beq d s = false := by
      cases hb : Nat.beq d s with
      | false => rfl
      | true => exact (h (Nat.eq_of_beq_eq_true hb)).elim
    rw [this]; rfl

theorem VRel.imp {σ σ' : Sg} {h h' : Hp} {T : Ty} {x : T.den} {v : Value} {t t' : Tag} (k : ∀ c, Rel σ h T false x c t → Rel σ' h' T false x c t') (r : VRel σ h T x v t) : VRel σ' h' T x v t' :=
  let ⟨c, hw, hr⟩ := r; ⟨c, hw, k c hr⟩
theorem VRel.pure {σ σ' : Sg} {h h' : Hp} (hσ : σ.le σ') {T : Ty} {x : T.den} {v : Value} {t t' : Tag} (hp : T.pure = true) (r : VRel σ h T x v t) : VRel σ' h' T x v t' :=
  r.imp fun _ => Rel.pure hσ hp
theorem VRel.move {σ σ' : Sg} {h h' : Hp} (hσ : σ.le σ') {T : Ty} {x : T.den} {v : Value} {t t' : Tag} (hp : T.closed = true) (g : Goes h h' t t') (r : VRel σ h T x v t) : VRel σ' h' T x v t' :=
  r.imp fun _ => Rel.move hσ hp g

/-- top types: what they look at stays -/
structure Stays (h h' : Hp) (u : Tag) : Prop where
  cells : ∀ b cs, h b = some (.cells cs u) → ∃ cs', h' b = some (.cells cs' u)
  row : ∀ b cs, h b = some (.row cs u) → h' b = some (.row cs u)
  obj : ∀ b o, h b = some (.obj o u) → h' b = some (.obj o u)
  no : (∀ b blk, h b = some blk → blk.tag ≠ u) → ∀ b blk, h' b = some blk → blk.tag ≠ u
theorem VRel.top {σ σ' : Sg} {h h' : Hp} (hσ : σ.le σ') {T : Ty} {x : T.den} {v : Value} {t : Tag} (hk : T.okTop = true)
    (g : T.closed = true → Goes h h' t t)
    (gl : ∀ u, T.looks = some u → Stays h h' u)
    (r : VRel σ h T x v t) : VRel σ' h' T x v t := by
  refine r.imp fun c hr => ?_
  cases T with
  | slV z u e =>
    have g1 := gl u rfl
    simp only [Ty.okTop] at hk
    simp only [Rel] at hr ⊢
    obtain ⟨a, len, cap, h1, h2, h3, h4⟩ := hr
    refine ⟨a, len, cap, h1, h2, h3, h4.imp id ?_⟩
    rintro ⟨b, off, ch, e1, e2, e3, e4⟩
    exact ⟨b, off, ch, e1, g1.row _ _ e2, e3, e4.imp fun _ _ k => Rel.pure hσ hk k⟩
  | vref u e =>
    have g1 := gl u rfl
    simp only [Ty.okTop] at hk
    simp only [Rel] at hr ⊢
    obtain ⟨b, off, ch, e1, e2, e3, e4⟩ := hr
    exact ⟨b, off, ch, e1, g1.row _ _ e2, e3, Rel.pure hσ hk e4⟩
  | ptr u o s n p =>
    have g1 := gl u rfl
    simp only [Rel] at hr ⊢
    obtain ⟨b, ch, e1, e2, e3⟩ := hr
    obtain ⟨ch', e2⟩ := g1.cells _ _ e2
    exact ⟨b, ch', e1, e2, e3⟩
  | slT u e =>
    have g1 := gl u rfl
    simp only [Rel] at hr ⊢
    obtain ⟨ad, cap, e1, e2, e3, e4⟩ := hr
    refine ⟨ad, cap, e1, e2, e3, e4.imp id ?_⟩
    rintro ⟨b, ch, f1, f2, f3⟩
    exact ⟨b, ch, f1, g1.row _ _ f2, f3⟩
  | fnp f u =>
    have g1 := gl u rfl
    simp only [Rel] at hr ⊢
    obtain ⟨b, ch, e1, e2⟩ := hr
    obtain ⟨ch', e2⟩ := g1.cells _ _ e2
    exact ⟨b, ch', e1, e2⟩
  | mref u =>
    have g1 := gl u rfl
    simp only [Rel] at hr ⊢
    obtain ⟨b, es, clock, e1, e2⟩ := hr
    exact ⟨b, es, clock, e1, g1.obj _ _ e2⟩
  | slA z u e =>
    have g1 := gl u rfl
    simp only [Ty.okTop] at hk
    simp only [Rel] at hr ⊢
    obtain ⟨a, len, cap, h1, h2, h3, h4⟩ := hr
    refine ⟨a, len, cap, h1, h2, h3, h4.imp id ?_⟩
    rintro ⟨b, ch, e1, e2, e3, e4⟩
    exact ⟨b, ch, e1, g1.row _ _ e2, e3, e4.imp fun _ _ k => Rel.pure hσ hk k⟩
  | eref u e o p =>
    have g1 := gl u rfl
    simp only [Rel] at hr ⊢
    obtain ⟨b, ch, e1, e2, e3⟩ := hr
    exact ⟨b, ch, e1, g1.row _ _ e2, e3⟩
  | _ => first | exact Rel.move hσ hk (g hk) hr | (simp [Ty.okTop, Ty.closed] at hk)

theorem getD_set {tm : Array Value} {d s : Nat} {val : Value} : (tm.setIfInBounds d val).getD s undef = if d = s ∧ s < tm.size then val else tm.getD s undef := by
  simp only [Array.getD_eq_getD_getElem?, Array.getElem?_setIfInBounds]
  by_cases h : d = s
  · by_cases h2 : s < tm.size
    · simp [h, h2]
    · simp [h, h2]
  · simp [h]

def hasS : St → Nat → Bool
  | [], _ => false
  | (k, _) :: r, s => Nat.beq k s || hasS r s
theorem beq_iff {a b : Nat} : Nat.beq a b = true ↔ a = b := ⟨Nat.eq_of_beq_eq_true, fun e => by rw [e]; exact Nat.beq_refl b⟩
theorem get_app {us st : St} {s : Nat} : St.get (us ++ st) s = if hasS us s then St.get us s else St.get st s := by
  induction us with
  | nil => simp [hasS]
  | cons x r ih =>
    obtain ⟨k, v⟩ := x
    rw [List.cons_append, get_cons, get_cons]
    by_cases e : k = s
    · rw [if_pos e, if_pos e, if_pos (by simp [hasS, e])]
    · have hb : Nat.beq k s = false := by
        cases h : Nat.beq k s with
        | false => rfl
        | true => exact (e (beq_iff.1 h)).elim
      rw [if_neg e, if_neg e, ih]
      simp only [hasS, hb, Bool.false_or]
theorem get_kill {st : St} {ks : List Tag} {s : Nat} : St.get (killSt ks st) s = (match st.get s with
    | some v => if deadV ks v then none else some v
    | none => none) := by
  induction st with
  | nil => rfl
  | cons x r ih =>
    obtain ⟨k, v⟩ := x
    cases v with
    | none =>
      simp only [killSt]
      rw [get_cons, get_cons]
      by_cases e : k = s
      · simp [e]
      · rw [if_neg e, if_neg e]; exact ih
    | some v =>
      simp only [killSt]
      rw [get_cons, get_cons]
      by_cases e : k = s
      · rw [if_pos e, if_pos e]
        cases hv : deadV ks v <;> simp [hv]
      · rw [if_neg e, if_neg e]; exact ih
theorem deadV_nil (v : SV) : deadV [] v = false := by unfold deadV; split <;> rfl
theorem get_upd {st us : St} {ks : List Tag} {s : Nat} : St.get (st.upd us ks) s = if hasS us s then St.get us s else (match st.get s with
    | some v => if deadV ks v then none else some v
    | none => none) := by
  cases ks with
  | nil =>
    simp only [St.upd, get_app, deadV_nil]
    cases St.get st s <;> simp
  | cons k ks' => simp only [St.upd, get_app, get_kill]

/-- blocks of slots that were not written are as they were -/
def Keep (h h' : Hp) (us : St) : Prop :=
  (∀ b blk k q, h b = some blk → blk.tag = k :: q → hasS us k = false → h' b = some blk) ∧ (∀ b blk k q, h' b = some blk → blk.tag = k :: q → hasS us k = false → h b = some blk)
structure SStep (h : Hp) (st : St) (tm : Array Value) (us : St) (ks : List Tag) (σ' : Sg) (h' : Hp) (tm' : Array Value) (w' : World) : Prop where
  rel : SRel σ' h' (st.upd us ks) tm' w'
  keep : Keep h h' us
  tms : tm'.size = tm.size ∧ ∀ s, hasS us s = false → tm'.getD s undef = tm.getD s undef
/-- some slots are written, some views die; what stands below the other slots stays -/
theorem SRel.upd {σ σ' : Sg} {h h' : Hp} {st : St} {tm tm' : Array Value} {w w' : World} (S : SRel σ h st tm w) (us : St) (ks : List Tag) (hσ : σ.le σ') (I : Inv w' σ' h')
    (ha : ∀ b blk k r, h b = some blk → blk.tag = k :: r → hasS us k = false → h' b = some blk)
    (hb : ∀ b blk, h' b = some blk → ∃ k r, blk.tag = k :: r ∧ (hasS us k = true → Owns (st.upd us ks) k) ∧ (hasS us k = false → h b = some blk))
    (hc : ∀ s v, hasS us s = true → St.get us s = some v → s < tm'.size ∧ VRel σ' h' v.T v.x (tm'.getD s undef) [s] ∧ v.T.okTop = true ∧ ∀ u, v.T.looks = some u → ∃ k r, u = k :: r ∧ Owns (st.upd us ks) k)
    (hd : tm'.size = tm.size ∧ ∀ s, hasS us s = false → tm'.getD s undef = tm.getD s undef)
    (he : ∀ s v k r, st.get s = some v → hasS us s = false → v.T.looks = some (k :: r) → hasS us k = true → deadV ks v = false → Stays h h' (k :: r) ∧ Owns (st.upd us ks) k) :
    SStep h st tm us ks σ' h' tm' w' := by
  refine ⟨?_, ⟨ha, fun b blk k q hbk ht hk => ?_⟩, hd⟩
  rotate_left
  · obtain ⟨k', r', e1, _, e2⟩ := hb b blk hbk
    rw [ht] at e1; injection e1 with e1 _
    exact e2 (by rw [← e1]; exact hk)
  have keep : ∀ s v, hasS us s = false → St.get (st.upd us ks) s = some v → st.get s = some v ∧ deadV ks v = false := by
    intro s v hs hg
    rw [get_upd, if_neg (by simp [hs])] at hg
    split at hg
    · rename_i u hu
      split at hg
      · simp at hg
      · rename_i hdead
        injection hg with hg
        subst hg
        exact ⟨hu, by simpa using hdead⟩
    · simp at hg
  have ownsK : ∀ k, hasS us k = false → Owns st k → Owns (st.upd us ks) k := by
    rintro k hk ⟨v, h1, h2, h3⟩
    refine ⟨v, ?_, h2, h3⟩
    rw [get_upd, if_neg (by simp [hk]), h1]
    have : deadV ks v = false := by
      unfold deadV
      split
      · rename_i u hu
        exfalso
        have : v.T.closed = false := by revert hu; cases v.T <;> simp [Ty.looks, Ty.closed]
        rw [this] at h3
        cases h3
      · rfl
    simp [this]
  refine ⟨I, ?_, ?_, ?_, ?_⟩
  · intro s v hg
    by_cases hs : hasS us s = true
    · have hg' := hg
      rw [get_upd, if_pos hs] at hg'
      obtain ⟨h1, h2, _⟩ := hc s v hs hg'
      exact ⟨h1, h2⟩
    · replace hs : hasS us s = false := by simpa using hs
      obtain ⟨h1, h2⟩ := keep s v hs hg
      obtain ⟨h3, h4⟩ := S.vals s v h1
      rw [hd.2 s hs, hd.1]
      refine ⟨h3, VRel.top hσ (S.typ s v h1) (fun _ b blk r hb' ht => ?_) (fun u hu => ?_) h4⟩
      · rw [ha b blk s r hb' (by rw [ht]; rfl) hs, ← ht]; cases blk <;> rfl
      · obtain ⟨k, r, rfl, ho⟩ := S.look s v u h1 hu
        by_cases hk : hasS us k = true
        · exact (he s v k r h1 hs hu hk h2).1
        · replace hk : hasS us k = false := by simpa using hk
          refine ⟨fun b cs hb' => ⟨cs, ha b _ k r hb' rfl hk⟩, fun b cs hb' => ha b _ k r hb' rfl hk, fun b cs hb' => ha b _ k r hb' rfl hk, fun hn b blk hb' ht => ?_⟩
          obtain ⟨k', r', e1, _, e2⟩ := hb b blk hb'
          rw [ht] at e1
          injection e1 with e1 _
          exact hn b blk (e2 (by rw [← e1]; exact hk)) ht
  · intro s v hg
    by_cases hs : hasS us s = true
    · rw [get_upd, if_pos hs] at hg
      exact (hc s v hs hg).2.2.1
    · exact S.typ s v (keep s v (by simpa using hs) hg).1
  · intro s v u hg hu
    by_cases hs : hasS us s = true
    · rw [get_upd, if_pos hs] at hg
      exact (hc s v hs hg).2.2.2 u hu
    · replace hs : hasS us s = false := by simpa using hs
      obtain ⟨h1, h2⟩ := keep s v hs hg
      obtain ⟨k, r, rfl, ho⟩ := S.look s v u h1 hu
      refine ⟨k, r, rfl, ?_⟩
      by_cases hk : hasS us k = true
      · exact (he s v k r h1 hs hu hk h2).2
      · exact ownsK k (by simpa using hk) ho
  · intro b blk hb'
    obtain ⟨k, r, e1, e2, e3⟩ := hb b blk hb'
    refine ⟨k, r, e1, ?_⟩
    by_cases hk : hasS us k = true
    · exact e2 hk
    · replace hk : hasS us k = false := by simpa using hk
      obtain ⟨k', r', e4, ho⟩ := S.own b blk (e3 hk)
      rw [e1] at e4
      injection e4 with e4 _
      subst e4
      exact ownsK k hk ho
/-- a fresh slot is written; new blocks may have come -/
theorem SRel.put {σ σ' : Sg} {h h' : Hp} {st : St} {tm : Array Value} {w w' : World} (S : SRel σ h st tm w) {d : Nat} (hd : fresh st.get d = true) (hsz : d < tm.size)
    (hσ : σ.le σ') (I : Inv w' σ' h') {v : SV} {val : Value}
    (hold : ∀ b blk, h b = some blk → h' b = some blk)
    (hnew : ∀ b blk, h' b = some blk → h b = some blk ∨ ∃ r, blk.tag = d :: r ∧ v.T.pure = false ∧ v.T.closed = true)
    (hv : VRel σ' h' v.T v.x val [d]) (hok : v.T.okTop = true) (hl : ∀ u, v.T.looks = some u → ∃ k r, u = k :: r ∧ Owns st k) :
    SStep h st tm [(d, some v)] [] σ' h' (tm.setIfInBounds d val) w' := by
  have hno := not_owns_of_fresh hd
  refine ⟨?_, ⟨fun b blk _ _ hb _ _ => hold b blk hb, fun b blk k q hb ht hk => ?_⟩, ⟨by simp, fun s hs => ?_⟩⟩
  rotate_left
  · rcases hnew b blk hb with h1 | ⟨r, h1, _⟩
    · exact h1
    · rw [ht] at h1; injection h1 with h1 _
      subst h1; simp [hasS] at hk
  · rw [getD_set, if_neg (fun hh => by rw [hh.1] at hs; simp [hasS] at hs)]
  show SRel σ' h' ((d, some v) :: st) (tm.setIfInBounds d val) w'
  have mono : ∀ k, Owns st k → Owns ((d, some v) :: st) k := by
    rintro k ⟨u, h1, h2, h3⟩
    refine ⟨u, ?_, h2, h3⟩
    rw [get_cons, if_neg (fun e => hno (by rw [e]; exact ⟨u, h1, h2, h3⟩))]; exact h1
  refine ⟨I, ?_, ?_, ?_, ?_⟩
  · intro s u hs
    rw [get_cons] at hs
    rw [getD_set]
    by_cases e : d = s
    · rw [if_pos e] at hs
      injection hs with hs
      subst hs
      subst e
      rw [if_pos ⟨rfl, hsz⟩]
      exact ⟨by simpa using hsz, hv⟩
    · rw [if_neg e] at hs
      rw [if_neg (fun k => e k.1)]
      obtain ⟨h1, h2⟩ := S.vals s u hs
      refine ⟨by simpa using h1, VRel.top hσ (S.typ s u hs) (fun _ b blk r hb ht => ?_) (fun t ht => ⟨fun b cs hb => ⟨cs, hold _ _ hb⟩, fun b cs hb => hold _ _ hb, fun b cs hb => hold _ _ hb, fun hn b blk hb => ?_⟩) h2⟩
      · rw [hold b blk hb, ← ht]; cases blk <;> rfl
      · rcases hnew b blk hb with hb | ⟨r, ht', _⟩
        · exact hn b blk hb
        · obtain ⟨k, q, hk, ho⟩ := S.look s u t hs ht
          rw [ht', hk]
          intro e
          injection e with e _
          exact hno (by rw [e]; exact ho)
  · intro s u hs
    rw [get_cons] at hs
    by_cases e : d = s
    · rw [if_pos e] at hs; injection hs with hs; subst hs; exact hok
    · rw [if_neg e] at hs; exact S.typ s u hs
  · intro s u t hs ht
    rw [get_cons] at hs
    by_cases e : d = s
    · rw [if_pos e] at hs; injection hs with hs; subst hs
      obtain ⟨k, r, h1, h2⟩ := hl t ht
      exact ⟨k, r, h1, mono k h2⟩
    · rw [if_neg e] at hs
      obtain ⟨k, r, h1, h2⟩ := S.look s u t hs ht
      exact ⟨k, r, h1, mono k h2⟩
  · intro b blk hb
    rcases hnew b blk hb with hb | ⟨r, ht, h1, h2⟩
    · obtain ⟨k, r, h1, h2⟩ := S.own b blk hb
      exact ⟨k, r, h1, mono k h2⟩
    · exact ⟨d, r, ht, v, by rw [get_cons, if_pos rfl], h1, h2⟩
end Go.Proofs.Bw
namespace Go.Proofs.Bw
open Go

/-! what is known of the program's types -/
structure TI where
  desc : TypeDesc
  size : Nat
  bytes : Nat
  zero : Value
abbrev Tab := List (Nat × TI)
def Tab.get : Tab → Nat → Option TI
  | [], _ => none
  | (k, v) :: r, t => bif Nat.beq k t then some v else Tab.get r t
def TabOk (P : Program) (tab : Tab) : Prop := ∀ t i, tab.get t = some i → P.underlying t = some i.desc ∧ ∃ j, P.info? t = some j ∧ j.size = i.size ∧ j.bytes = i.bytes ∧ j.zero = some i.zero

/-! constants -/
def litI (k : IntKind) (x : Int) : List Value → Bool
  | [.int j n] => Nat.beq (kn k) (kn j) && eqI x n && decide (k.min ≤ n) && decide (n ≤ k.max)
  | _ => false
def litB (x : Bool) : List Value → Bool
  | [.bool b] => bbeq x b
  | _ => false
def litS (x : List Int) : List Value → Bool
  | [.string s] => eqS x (ints s) && Nat.ble s.size maxLen
  | _ => false
def litSl (z : Nm) (e : Bool) : List Value → Bool
  | [.slice none 0 0] => e && Nat.beq (nn z) 1
  | _ => false
def litP (e : Bool) : List Value → Bool
  | [.pointer none] => e
  | _ => false
def litNil : Nat → List Value → Bool
  | 0, [.slice none 0 0] => true
  | 1, [.pointer none] => true
  | 2, [.nilFunc] => true
  | 3, [.nilIface] => true
  | _, _ => false
def litOk : (T : Ty) → T.den → List Value → Bool
  | .int k, x, cs => litI k x cs
  | .bool, x, cs => litB x cs
  | .str, x, cs => litS x cs
  | .unit, _, cs => cs.isEmpty
  | .pair a b, x, cs => litOk a x.1 (cs.take a.size) && litOk b x.2 (cs.drop a.size)
  | .arr n e, x, cs => Nat.beq (List.length (α := e.den) x) n && litL (fun y c => litOk e y c) e.size x cs
  | .slB z _ e, x, cs => litSl z (List.isEmpty (α := e.den) x) cs
  | .slX z e, x, cs => litSl z (List.isEmpty (α := e.den) x) cs
  | .opt e, x, cs => litP (Option.isNone (α := e.den) x) cs
  | .nil k, _, cs => litNil k cs
  | .any, _, cs => Nat.beq cs.length 1
  | _, _, _ => false
where
  litL {α : Type} (f : α → List Value → Bool) (n : Nat) : List α → List Value → Bool
  | [], [] => true
  | x :: xs, cs => f x (cs.take n) && litL f n xs (cs.drop n)
  | _, _ => false
theorem litL_ok {α : Type} {f : α → List Value → Bool} {R : α → List Value → Prop} (k : ∀ x c, f x c = true → R x c) (n : Nat) :
    ∀ {xs : List α} {cs : List Value}, litOk.litL f n xs cs = true → EList R xs cs
  | [], [], _ => rfl
  | [], _ :: _, h => by simp [litOk.litL] at h
  | x :: xs, cs, h => by
    simp only [litOk.litL, Bool.and_eq_true] at h
    exact ⟨cs.take n, cs.drop n, (List.take_append_drop n cs).symm, k _ _ h.1, litL_ok k n h.2⟩
theorem eqI_eq {a b : Int} (h : eqI a b = true) : a = b := by simpa [eqI] using h
theorem eqS_eq {a b : List Int} (h : eqS a b = true) : a = b := by simpa [eqS] using h
theorem litI_ok {k : IntKind} {x : Int} {cs : List Value} (hl : litI k x cs = true) : cs = [.int k x] ∧ inK k x := by
  unfold litI at hl
  split at hl
  · simp only [Bool.and_eq_true, decide_eq_true_eq] at hl
    obtain ⟨⟨⟨h1, h2⟩, h3⟩, h4⟩ := hl
    have := kn_inj (Nat.eq_of_beq_eq_true h1)
    have := eqI_eq h2
    subst_vars
    exact ⟨rfl, h3, h4⟩
  · simp at hl
theorem litSl_ok {z : Nm} {e : Bool} {cs : List Value} (hl : litSl z e cs = true) : cs = [.slice none 0 0] ∧ e = true ∧ z = .N := by
  unfold litSl at hl
  split at hl
  · simp only [Bool.and_eq_true] at hl
    exact ⟨rfl, hl.1, nn_inj (Nat.eq_of_beq_eq_true hl.2)⟩
  · simp at hl
theorem litNil_ok {k : Nat} {cs : List Value} (hl : litNil k cs = true) : cs = [nilVal k] := by
  unfold litNil at hl
  split at hl <;> first | rfl | (simp at hl)
theorem litOk_rel {σ : Sg} {h : Hp} : ∀ {T : Ty} {x : T.den} {cs : List Value} {t : Tag}, litOk T x cs = true → Rel σ h T false x cs t := by
  intro T
  induction T with
  | pair a b iha ihb =>
    intro x cs t hl
    simp only [litOk, Bool.and_eq_true] at hl
    simp only [Rel]
    exact ⟨_, _, (List.take_append_drop a.size cs).symm, iha hl.1, ihb hl.2⟩
  | arr n e ih =>
    intro x cs t hl
    simp only [litOk, Bool.and_eq_true] at hl
    simp only [Rel]
    exact ⟨Nat.eq_of_beq_eq_true hl.1, litL_ok (fun _ _ k => ih k) _ hl.2⟩
  | int k => intro x cs t hl; simp only [Rel]; exact litI_ok hl
  | bool =>
    intro x cs t hl
    simp only [litOk] at hl
    unfold litB at hl
    split at hl
    · simp only [Rel]; rw [bbeq_eq hl]
    · simp at hl
  | str =>
    intro x cs t hl
    simp only [litOk] at hl
    unfold litS at hl
    split at hl
    · rename_i s
      simp only [Bool.and_eq_true] at hl
      simp only [Rel]
      exact ⟨s, rfl, (eqS_eq hl.1).symm, Nat.le_of_ble_eq_true hl.2⟩
    · simp at hl
  | unit => intro x cs t hl; simp only [litOk, List.isEmpty_iff] at hl; simp only [Rel]; exact hl
  | slB z c e ih =>
    intro x cs t hl
    obtain ⟨h1, h2, h3⟩ := litSl_ok (show litSl z (List.isEmpty (α := e.den) x) cs = true from hl)
    have hx : x = ([] : List e.den) := (List.isEmpty_iff (α := e.den) (l := x)).1 h2
    subst hx h1 h3
    simp only [Rel]
    exact ⟨none, 0, 0, rfl, ⟨by simp, by simp, by simp [maxLen], by simp⟩, rfl, fun _ => rfl, [], rfl, fun k => (k rfl).elim⟩
  | slX z e ih =>
    intro x cs t hl
    obtain ⟨h1, h2, h3⟩ := litSl_ok (show litSl z (List.isEmpty (α := e.den) x) cs = true from hl)
    have hx : x = ([] : List e.den) := (List.isEmpty_iff (α := e.den) (l := x)).1 h2
    subst hx h1 h3
    simp only [Rel]
    exact ⟨none, 0, 0, rfl, ⟨by simp, by simp, by simp [maxLen], by simp⟩, rfl, .inl rfl⟩
  | opt e ih =>
    intro x cs t hl
    simp only [litOk] at hl
    unfold litP at hl
    split at hl
    · have hx : x = (none : Option e.den) := (Option.isNone_iff_eq_none (α := e.den) (o := x)).1 hl
      subst hx
      simp only [Rel]
    · simp at hl
  | nil k => intro x cs t hl; simp only [Rel]; exact litNil_ok hl
  | any =>
    intro x cs t hl
    simp only [litOk] at hl
    simp only [Rel]
    exact List.length_eq_one_iff.1 (Nat.eq_of_beq_eq_true hl)
  | _ =>
    intro x cs t hl
    simp [litOk] at hl
def litV (T : Ty) (x : T.den) (v : Value) : Bool :=
  bif T.agg then (match v with | .agg c => litOk T x c.toList | _ => false) else litOk T x [v]
theorem litV_rel {σ : Sg} {h : Hp} {T : Ty} {x : T.den} {v : Value} {t : Tag} (hl : litV T x v = true) : VRel σ h T x v t := by
  unfold litV at hl
  cases hg : T.agg with
  | true =>
    rw [hg] at hl
    simp only [cond_true] at hl
    split at hl
    · rename_i c
      exact ⟨c.toList, by rw [hg]; simp [wr], litOk_rel hl⟩
    · simp at hl
  | false =>
    rw [hg] at hl
    exact ⟨[v], by rw [hg]; rfl, litOk_rel hl⟩

def opdOk : Opd → Operand → Bool
  | .t s, .tmp r => Nat.beq s r
  | .c v, .const w => litV v.T v.x w
  | .c v, .func f => (match v with | ⟨.fn g .unit, _⟩ => Nat.beq f g | _ => false)
  | _, _ => false
def dstOk (n : Nat) (o : Oper) (d : Nat) : Bool := match o.dst with | some e => Nat.beq e d && Nat.blt d n | none => false
theorem dstOk_eq {n : Nat} {o : Oper} {d : Nat} (h : dstOk n o d = true) : o.dst = some d ∧ d < n := by
  unfold dstOk at h
  split at h
  · rename_i e he
    simp only [Bool.and_eq_true, Nat.blt_eq] at h
    exact ⟨by rw [he, Nat.eq_of_beq_eq_true h.1], h.2⟩
  · simp at h

theorem opd_rel {σ : Sg} {h : Hp} {st : St} {a : Act} {w : World} (S : SRel σ h st a.tmps w) {o : Opd} {x : Operand} {v : SV} (ho : opdOk o x = true) (hv : opv st.get o = some v) :
    ∃ t, VRel σ h v.T v.x (a.eval x) t := by
  cases o with
  | t s =>
    cases x with
    | tmp r =>
      have : s = r := Nat.eq_of_beq_eq_true ho
      subst this
      exact ⟨[s], (S.vals s v hv).2⟩
    | _ => simp [opdOk] at ho
  | c u =>
    simp only [opv, Option.some.injEq] at hv
    subst hv
    cases x with
    | const w => exact ⟨[], litV_rel ho⟩
    | func f =>
      simp only [opdOk] at ho
      split at ho
      · rename_i g x
        have := Nat.eq_of_beq_eq_true ho
        subst this
        exact ⟨[], [_], rfl, by simp only [Rel, Act.eval]; exact ⟨[], rfl, rfl⟩⟩
      · simp at ho
    | _ => simp [opdOk] at ho
theorem opd_int {σ : Sg} {h : Hp} {st : St} {a : Act} {w : World} (S : SRel σ h st a.tmps w) {o : Opd} {x : Operand} {k : IntKind} {n : Int} (ho : opdOk o x = true) (hv : opI st.get o = some (k, n)) :
    a.eval x = .int k n ∧ inK k n := by
  simp only [opI] at hv
  split at hv
  · rename_i k' n' e
    obtain ⟨t, c, hw, hr⟩ := opd_rel S ho e
    injection hv with hv
    injection hv with h1 h2
    subst h1 h2
    simp only [Rel] at hr
    simp only [Ty.agg, wr] at hw
    rw [hr.1] at hw
    injection hw with hw _
    exact ⟨hw.symm, hr.2⟩
  · simp at hv

/-- what holds behind an operation -/
def Post {R : Type} (σ : Sg) (h : Hp) (w : World) (st : St) (K : St → List Tag → Option R) (r : R) (a : Act) (a' : Act) (w' : World) : Prop :=
  ∃ σ' h' us ks, K us ks = some r ∧ Ext w σ h w' σ' h' ∧ SStep h st a.tmps us ks σ' h' a'.tmps w' ∧ a'.defers = a.defers ∧ a'.tmps.size = a.tmps.size

section
variable {P : Program} {R : Type} {σ : Sg} {h : Hp} {st : St} {a : Act} {w : World} {K : St → List Tag → Option R} {r : R} {o : Oper} {Q : Exit → Act → World → Prop}

theorem put_some {g : Nat → Option SV} {d : Nat} {v : SV} (hK : put g d v K = some r) : fresh g d = true ∧ K [(d, some v)] [] = some r := by
  unfold put at hK
  cases hf : fresh g d with
  | true => rw [hf] at hK; exact ⟨rfl, hK⟩
  | false => rw [hf] at hK; simp at hK

/-- a value comes, nothing else turns -/
theorem wp_put (S : SRel σ h st a.tmps w) {d : Nat} {v : SV} (hd : dstOk a.tmps.size o d = true) (hK : put st.get d v K = some r) {val : Value} {w' : World}
    (hrun : (execOp a.eval o).run P w = .ok (.value val) w') (hw : w'.heap = w.heap) (hos : w'.os = w.os) (ht : w'.tape = w.tape) (hout : w'.output = w.output)
    (hv : VRel σ h v.T v.x val [d]) (hok : v.T.okTop = true) (hl : ∀ u, v.T.looks = some u → ∃ k r, u = k :: r ∧ Owns st k) : o.wp P a w (Post σ h w st K r a) Q := by
  obtain ⟨hf, hk⟩ := put_some hK
  obtain ⟨h1, h2⟩ := dstOk_eq hd
  unfold Oper.wp
  rw [hrun, Oper.upon_value, h1]
  refine ⟨σ, h, _, _, hk, Ext.same σ h hw hos ht hout, ?_, rfl, by simp [Act.put]⟩
  exact S.put hf h2 σ.le_refl (S.inv.same hw) (fun _ _ k => k) (fun _ _ k => .inl k) hv hok hl

theorem pure_okTop {T : Ty} (hp : T.pure = true) : T.okTop = true := by
  cases T <;> first | exact Ty.closed_of_pure hp | rfl | (simp [Ty.pure] at hp)
theorem pure_looks {T : Ty} (hp : T.pure = true) : T.looks = none := by
  cases T <;> first | rfl | (simp [Ty.pure] at hp)
theorem wp_put_pure (S : SRel σ h st a.tmps w) {d : Nat} {v : SV} (hd : dstOk a.tmps.size o d = true) (hK : put st.get d v K = some r) {val : Value} {w' : World}
    (hrun : (execOp a.eval o).run P w = .ok (.value val) w') (hw : w'.heap = w.heap) (hos : w'.os = w.os) (ht : w'.tape = w.tape) (hout : w'.output = w.output)
    {t : Tag} (hp : v.T.pure = true) (hv : VRel σ h v.T v.x val t) : o.wp P a w (Post σ h w st K r a) Q :=
  wp_put S hd hK hrun hw hos ht hout (hv.pure σ.le_refl hp) (pure_okTop hp) (by rw [pure_looks hp]; simp)

theorem op_mv {d : Nat} {b : Opd} {x : Operand} (S : SRel σ h st a.tmps w) (hop : o.op = .move x ∨ o.op = .assign x) (hd : dstOk a.tmps.size o d = true) (hx : opdOk b x = true)
    (hK : evOp st.get K (.mv d b) = some r) : o.wp P a w (Post σ h w st K r a) Q := by
  simp only [evOp] at hK
  split at hK
  · rename_i v hv
    cases hp : v.T.pure with
    | false => rw [hp] at hK; simp at hK
    | true =>
      rw [hp] at hK
      obtain ⟨t, hr⟩ := opd_rel S hx hv
      refine wp_put_pure (v := v) S hd hK (val := a.eval x) (w' := w) ?_ rfl rfl rfl rfl hp hr
      unfold execOp
      rcases hop with e | e <;> rw [e] <;> rfl
  · simp at hK
end
end Go.Proofs.Bw
namespace Go.Proofs.Bw
open Go

theorem wrap_in (k : IntKind) (n : Int) : inK k (k.wrap n) := by
  cases k <;> simp only [inK, IntKind.min, IntKind.max, IntKind.wrap, IntKind.signed, IntKind.bits] <;> simp <;> (try split) <;> omega
theorem tmod_in {k : IntKind} {x y : Int} (hx : inK k x) : inK k (x.tmod y) := by
  have hm : k.min ≤ 0 ∧ 0 ≤ k.max := by cases k <;> decide
  unfold inK at hx ⊢
  have h0 : (x.tmod y).natAbs ≤ x.natAbs := by rw [Int.natAbs_tmod]; exact Nat.mod_le _ _
  rcases Int.le_total 0 x with h | h
  · have h1 := Int.tmod_nonneg y h
    omega
  · have e : x.tmod y = -((-x).tmod y) := by rw [Int.neg_tmod]; omega
    have h1 := Int.tmod_nonneg y (show 0 ≤ -x by omega)
    omega
theorem ishr_in {k : IntKind} {x : Int} (n : Nat) (hx : inK k x) : inK k (ishr k x n) := by
  have hm : k.min ≤ 0 ∧ -1 ≤ k.max ∧ 0 ≤ k.max := by cases k <;> decide
  have hmu : k.signed = false → k.min = 0 := by cases k <;> decide
  unfold inK at hx ⊢
  unfold ishr
  have hp : (0 : Int) < 2 ^ (min n k.bits) := Int.pow_pos (by decide)
  rw [Int.fdiv_eq_ediv_of_nonneg _ (Int.le_of_lt hp)]
  rcases Int.le_total 0 x with h | h
  · have h1 := Int.ediv_nonneg h (Int.le_of_lt hp)
    have h2 := Int.ediv_le_self (2 ^ (min n k.bits)) h
    omega
  · have h1 : x ≤ x / 2 ^ (min n k.bits) := by
      refine (Int.le_ediv_iff_mul_le hp).2 ?_
      have : x * 2 ^ min n k.bits ≤ x * 1 := Int.mul_le_mul_of_nonpos_left h (by omega)
      omega
    have h2 : x / 2 ^ (min n k.bits) < 1 := Int.ediv_lt_of_lt_mul hp (by omega)
    omega

theorem ints_inj {a b : ByteArray} (h : ints a = ints b) : a = b := by
  have h1 : a.data.toList = b.data.toList := by
    unfold ints at h
    have : ∀ (x y : List UInt8), x.map (fun b => (b.toNat : Int)) = y.map (fun b => (b.toNat : Int)) → x = y := by
      intro x
      induction x with
      | nil => intro y h; cases y <;> simp at h ⊢
      | cons c x ih =>
        intro y h
        cases y with
        | nil => simp at h
        | cons d y =>
          simp only [List.map_cons, List.cons.injEq] at h
          have : c = d := UInt8.toNat_inj.1 (by omega)
          rw [this, ih y h.2]
    exact this _ _ h
  cases a; cases b
  simp only [ByteArray.mk.injEq]
  exact Array.toList_inj.1 h1
theorem ints_eq {a b : ByteArray} : (a.toList == b.toList) = decide (ints a = ints b) := by
  rw [ByteArray.toList_eq, ByteArray.toList_eq]
  by_cases h : ints a = ints b
  · have := ints_inj h
    subst this
    simp
  · simp only [h, decide_false, beq_eq_false_iff_ne, ne_eq]
    intro e
    exact h (by unfold ints; rw [e])
theorem ints_slt {a b : ByteArray} : Op.bytesLess a.toList b.toList = slt (ints a) (ints b) := by
  rw [ByteArray.toList_eq, ByteArray.toList_eq]
  unfold ints
  generalize a.data.toList = x
  generalize b.data.toList = y
  induction x generalizing y with
  | nil => cases y <;> rfl
  | cons c x ih =>
    cases y with
    | nil => rfl
    | cons d y =>
      simp only [Op.bytesLess, List.map_cons, slt, ih]
      have e1 : decide (c < d) = decide ((c.toNat : Int) < (d.toNat : Int)) := by
        simp [UInt8.lt_iff_toNat_lt]
      have e2 : (c == d) = decide ((c.toNat : Int) = (d.toNat : Int)) := by
        rw [Bool.eq_iff_iff]
        simp only [beq_iff_eq, decide_eq_true_eq, Int.natCast_inj]
        exact UInt8.toNat_inj.symm
      rw [← e1, ← e2]
theorem ints_append {a b : ByteArray} : ints (a ++ b) = ints a ++ ints b := by
  unfold ints
  simp
theorem ints_length {a : ByteArray} : (ints a).length = a.size := by
  simp [ints]

section
variable {P : Program} {R : Type} {σ : Sg} {h : Hp} {st : St} {a : Act} {w : World} {K : St → List Tag → Option R} {r : R} {o : Oper} {Q : Exit → Act → World → Prop}

theorem opd_bool {b : Opd} {x : Operand} {c : Bool} (S : SRel σ h st a.tmps w) (ho : opdOk b x = true) (hv : opv st.get b = some ⟨.bool, c⟩) : a.eval x = .bool c := by
  obtain ⟨t, c', hw, hr⟩ := opd_rel S ho hv
  simp only [Rel] at hr
  simp only [Ty.agg, wr] at hw
  rw [hr] at hw
  injection hw with hw _
  exact hw.symm
theorem opd_str {b : Opd} {x : Operand} {l : List Int} (S : SRel σ h st a.tmps w) (ho : opdOk b x = true) (hv : opv st.get b = some ⟨.str, l⟩) : ∃ s, a.eval x = .string s ∧ ints s = l ∧ s.size ≤ maxLen := by
  obtain ⟨t, c', hw, hr⟩ := opd_rel S ho hv
  simp only [Rel] at hr
  obtain ⟨s, e, h1, h2⟩ := hr
  simp only [Ty.agg, wr] at hw
  rw [e] at hw
  injection hw with hw _
  exact ⟨s, hw.symm, h1, h2⟩
theorem vrel_int {σ : Sg} {h : Hp} {k : IntKind} {n : Int} (hn : inK k n) (t : Tag) : VRel σ h (.int k) n (.int k n) t := ⟨[.int k n], rfl, by simp only [Rel]; exact ⟨trivial, hn⟩⟩
theorem vrel_bool {σ : Sg} {h : Hp} (b : Bool) (t : Tag) : VRel σ h .bool b (.bool b) t := ⟨[.bool b], rfl, by simp only [Rel]⟩
theorem vrel_str {σ : Sg} {h : Hp} {s : ByteArray} (hs : s.size ≤ maxLen) (t : Tag) : VRel σ h .str (ints s) (.string s) t := ⟨[.string s], rfl, by simp only [Rel]; exact ⟨s, rfl, rfl, hs⟩⟩

theorem kn_beq {a b : IntKind} (h : Nat.beq (kn a) (kn b) = true) : a = b := kn_inj (Nat.eq_of_beq_eq_true h)

/-- an integer's result -/
theorem wp_int (S : SRel σ h st a.tmps w) {d : Nat} {k : IntKind} {n : Int} (hd : dstOk a.tmps.size o d = true) (hf : fresh st.get d = true) (hK : K [(d, some ⟨.int k, n⟩)] [] = some r) (hn : inK k n)
    (hrun : (execOp a.eval o).run P w = .ok (.value (.int k n)) w) : o.wp P a w (Post σ h w st K r a) Q :=
  wp_put_pure (v := ⟨.int k, n⟩) S hd (by simp only [Bw.put, hf, cond_true]; exact hK) hrun rfl rfl rfl rfl rfl (vrel_int hn [])
theorem wp_bool (S : SRel σ h st a.tmps w) {d : Nat} {b : Bool} (hd : dstOk a.tmps.size o d = true) (hf : fresh st.get d = true) (hK : K [(d, some ⟨.bool, b⟩)] [] = some r)
    (hrun : (execOp a.eval o).run P w = .ok (.value (.bool b)) w) : o.wp P a w (Post σ h w st K r a) Q :=
  wp_put_pure (v := ⟨.bool, b⟩) S hd (by simp only [Bw.put, hf, cond_true]; exact hK) hrun rfl rfl rfl rfl rfl (vrel_bool b [])

theorem eqGuard_pure {op : BinOp} {t : TypeId} {x y : Operand} {k : IntKind} {n : Int} {v : Value} : eqGuard op t x y (.int k n) v = pure () := by cases op <;> rfl
theorem run_bin {op : BinOp} {t u : TypeId} {x y : Operand} (hop : o.op = .binOp op t x y u) {va vb : Value} (ha : a.eval x = va) (hb : a.eval y = vb)
    (hg : eqGuard op t x y va vb = pure ()) {v : Value} (hr : (binOp op t va vb).run P w = .ok v w) : (execOp a.eval o).run P w = .ok (.value v) w := by
  unfold execOp
  rw [hop]
  simp [ha, hb, hg, hr]

theorem shift_run {k yk : IntKind} {x y : Int} (hy : 0 ≤ y) : (Op.shift .shl k x yk y).run P w = .ok (.int k (ishl k x y.toNat)) w ∧ (Op.shift .shr k x yk y).run P w = .ok (.int k (ishr k x y.toNat)) w := by
  unfold Op.shift
  have : ¬ y < 0 := by omega
  simp [this, ishl, ishr]

theorem op_bin_int {d : Nat} {op : BinOp} {x y : Operand} {t u : TypeId} (S : SRel σ h st a.tmps w) (hop : o.op = .binOp op t x y u) (hd : dstOk a.tmps.size o d = true)
    (hf : fresh st.get d = true) {k j : IntKind} {m n : Int} (ha : a.eval x = .int k m) (hb : a.eval y = .int j n) (hm : inK k m)
    (hK : binK d op ⟨.int k, m⟩ ⟨.int j, n⟩ (fun us => K us []) = some r) : o.wp P a w (Post σ h w st K r a) Q := by
  have fin := fun (v : Value) (hr : (binOp op t (.int k m) (.int j n)).run P w = .ok v w) => run_bin (P := P) hop ha hb eqGuard_pure hr
  simp only [binK] at hK
  cases op with
  | shl =>
    simp only [geK] at hK
    split at hK
    · rename_i hy
      exact wp_int S hd hf hK (by unfold ishl; exact wrap_in _ _) (fin _ (by rw [binOp_shl]; exact (shift_run hy).1))
    · simp at hK
  | shr =>
    simp only [geK] at hK
    split at hK
    · rename_i hy
      exact wp_int S hd hf hK (ishr_in _ hm) (fin _ (by rw [binOp_shr]; exact (shift_run hy).2))
    · simp at hK
  | add =>
    cases hkj : Nat.beq (kn k) (kn j) with
    | false => rw [hkj] at hK; simp at hK
    | true =>
      rw [hkj] at hK
      have := kn_beq hkj
      subst this
      simp only [cond_true] at hK
      exact wp_int S hd hf hK (wrap_in _ _) (fin _ (by simp [binOp, Op.intArith]))
  | sub =>
    cases hkj : Nat.beq (kn k) (kn j) with
    | false => rw [hkj] at hK; simp at hK
    | true =>
      rw [hkj] at hK
      have := kn_beq hkj
      subst this
      simp only [cond_true] at hK
      exact wp_int S hd hf hK (wrap_in _ _) (fin _ (by simp [binOp, Op.intArith]))
  | mul =>
    cases hkj : Nat.beq (kn k) (kn j) with
    | false => rw [hkj] at hK; simp at hK
    | true =>
      rw [hkj] at hK
      have := kn_beq hkj
      subst this
      simp only [cond_true] at hK
      exact wp_int S hd hf hK (wrap_in _ _) (fin _ (by simp [binOp, Op.intArith]))
  | quo =>
    cases hkj : Nat.beq (kn k) (kn j) with
    | false => rw [hkj] at hK; simp at hK
    | true =>
      rw [hkj] at hK
      have := kn_beq hkj
      subst this
      simp only [cond_true] at hK
      simp only [nzK] at hK
      split at hK
      · simp at hK
      · rename_i hz
        exact wp_int S hd hf hK (wrap_in _ _) (fin _ (by simp [binOp, Op.intDiv, hz]))
  | rem =>
    cases hkj : Nat.beq (kn k) (kn j) with
    | false => rw [hkj] at hK; simp at hK
    | true =>
      rw [hkj] at hK
      have := kn_beq hkj
      subst this
      simp only [cond_true] at hK
      simp only [nzK] at hK
      split at hK
      · simp at hK
      · rename_i hz
        exact wp_int S hd hf hK (tmod_in hm) (fin _ (by simp [binOp, Op.intDiv, hz]))
  | and =>
    cases hkj : Nat.beq (kn k) (kn j) with
    | false => rw [hkj] at hK; simp at hK
    | true =>
      rw [hkj] at hK
      have := kn_beq hkj
      subst this
      simp only [cond_true] at hK
      exact wp_int S hd hf hK (wrap_in _ _) (fin _ (by simp only [binOp, ne_eq, not_true_eq_false, if_false]; rfl))
  | or =>
    cases hkj : Nat.beq (kn k) (kn j) with
    | false => rw [hkj] at hK; simp at hK
    | true =>
      rw [hkj] at hK
      have := kn_beq hkj
      subst this
      simp only [cond_true] at hK
      exact wp_int S hd hf hK (wrap_in _ _) (fin _ (by simp only [binOp, ne_eq, not_true_eq_false, if_false]; rfl))
  | xor =>
    cases hkj : Nat.beq (kn k) (kn j) with
    | false => rw [hkj] at hK; simp at hK
    | true =>
      rw [hkj] at hK
      have := kn_beq hkj
      subst this
      simp only [cond_true] at hK
      exact wp_int S hd hf hK (wrap_in _ _) (fin _ (by simp only [binOp, ne_eq, not_true_eq_false, if_false]; rfl))
  | andNot =>
    cases hkj : Nat.beq (kn k) (kn j) with
    | false => rw [hkj] at hK; simp at hK
    | true =>
      rw [hkj] at hK
      have := kn_beq hkj
      subst this
      simp only [cond_true] at hK
      exact wp_int S hd hf hK (wrap_in _ _) (fin _ (by simp only [binOp, ne_eq, not_true_eq_false, if_false]; rfl))
  | eql =>
    cases hkj : Nat.beq (kn k) (kn j) with
    | false => rw [hkj] at hK; simp at hK
    | true =>
      rw [hkj] at hK
      have := kn_beq hkj
      subst this
      simp only [cond_true] at hK
      exact wp_bool S hd hf hK (fin _ (by simp only [binOp, ne_eq, not_true_eq_false, if_false]; rfl))
  | neq =>
    cases hkj : Nat.beq (kn k) (kn j) with
    | false => rw [hkj] at hK; simp at hK
    | true =>
      rw [hkj] at hK
      have := kn_beq hkj
      subst this
      simp only [cond_true] at hK
      exact wp_bool S hd hf hK (fin _ (by simp only [binOp, ne_eq, not_true_eq_false, if_false]; rfl))
  | lss =>
    cases hkj : Nat.beq (kn k) (kn j) with
    | false => rw [hkj] at hK; simp at hK
    | true =>
      rw [hkj] at hK
      have := kn_beq hkj
      subst this
      simp only [cond_true] at hK
      exact wp_bool S hd hf hK (fin _ (by simp only [binOp, ne_eq, not_true_eq_false, if_false]; rfl))
  | leq =>
    cases hkj : Nat.beq (kn k) (kn j) with
    | false => rw [hkj] at hK; simp at hK
    | true =>
      rw [hkj] at hK
      have := kn_beq hkj
      subst this
      simp only [cond_true] at hK
      exact wp_bool S hd hf hK (fin _ (by simp only [binOp, ne_eq, not_true_eq_false, if_false]; rfl))
  | gtr =>
    cases hkj : Nat.beq (kn k) (kn j) with
    | false => rw [hkj] at hK; simp at hK
    | true =>
      rw [hkj] at hK
      have := kn_beq hkj
      subst this
      simp only [cond_true] at hK
      exact wp_bool S hd hf hK (fin _ (by simp only [binOp, ne_eq, not_true_eq_false, if_false]; rfl))
  | geq =>
    cases hkj : Nat.beq (kn k) (kn j) with
    | false => rw [hkj] at hK; simp at hK
    | true =>
      rw [hkj] at hK
      have := kn_beq hkj
      subst this
      simp only [cond_true] at hK
      exact wp_bool S hd hf hK (fin _ (by simp only [binOp, ne_eq, not_true_eq_false, if_false]; rfl))
end
end Go.Proofs.Bw
namespace Go.Proofs.Bw
open Go

def descInt (k : IntKind) : TypeDesc → Bool
  | .int j => Nat.beq (kn k) (kn j)
  | _ => false
def descBool : TypeDesc → Bool
  | .bool => true
  | _ => false
def descStr : TypeDesc → Bool
  | .string => true
  | _ => false
def descAgg : TypeDesc → Bool
  | .struct _ | .array _ _ => true
  | _ => false
def descFs : TypeDesc → Option (List Field)
  | .struct fs => some fs.toList
  | _ => none
def descSl : TypeDesc → Option TypeId
  | .slice e => some e
  | _ => none
def descArr : TypeDesc → Option (Nat × TypeId)
  | .array n e => some (n, e)
  | _ => none

/-- the type's cells are laid out as the evaluator's type says; 'hd': the struct types that are met -/
def lay (tab : Tab) (hd : List Nat) : Ty → (Nat ⊕ (List Field × Nat)) → Bool
  | .int k, .inl t => (match tab.get t with
    | some i => descInt k i.desc && Nat.beq i.size 1
    | none => false)
  | .bool, .inl t => (match tab.get t with
    | some i => descBool i.desc && Nat.beq i.size 1
    | none => false)
  | .str, .inl t => (match tab.get t with
    | some i => descStr i.desc && Nat.beq i.size 1
    | none => false)
  | .pair a b, .inl t => (match tab.get t with
    | some i => (match descFs i.desc with
      | some (f :: fs) => hd.contains t && f.name != "_" && Nat.beq f.offset 0 && lay tab hd a (.inl f.type) && lay tab hd b (.inr (fs, a.size)) && Nat.beq i.size (a.size + b.size)
      | _ => false)
    | none => false)
  | .pair a b, .inr (f :: fs, off) => f.name != "_" && Nat.beq f.offset off && lay tab hd a (.inl f.type) && lay tab hd b (.inr (fs, off + a.size))
  | .unit, .inr ([], _) => true
  | _, _ => false
def Ty.dep : Ty → Nat
  | .pair a b => max a.dep b.dep + 1
  | _ => 0

theorem isAgg_run {P : Program} {t : TypeId} {d : TypeDesc} (h : P.underlying t = some d) (w : World) : (isAgg t).run P w = .ok (descAgg d) w := by
  unfold isAgg
  rw [Sem.run_bind, run_underlying h w]
  cases d <;> rfl
theorem sizeOf_run {P : Program} {t : TypeId} {j : TypeInfo} (h : P.info? t = some j) (w : World) : (sizeOf t).run P w = .ok j.size w := by
  simp [sizeOf, typeInfo, h]
/-- a value taken out of cells -/
def pick (g : Bool) (cs : List Value) : Value := bif g then .agg ⟨cs⟩ else cs.headD undef
theorem wr_pick {g : Bool} {cs : List Value} (h : g = true ∨ cs.length = 1) : wr g (pick g cs) cs := by
  cases g with
  | true => rfl
  | false =>
    rcases h with h | h
    · cases h
    · obtain ⟨v, rfl⟩ := List.length_eq_one_iff.1 h
      rfl
theorem size_nonagg {T : Ty} (h : T.agg = false) : T.size = 1 := by cases T <;> first | rfl | (simp [Ty.agg] at h)
theorem VRel.of_rel {σ : Sg} {h : Hp} {T : Ty} {x : T.den} {cs : List Value} {t : Tag} (hr : Rel σ h T false x cs t) : VRel σ h T x (pick T.agg cs) t := by
  refine ⟨cs, wr_pick ?_, hr⟩
  cases hg : T.agg with
  | true => exact .inl rfl
  | false => exact .inr (by rw [hr.length, size_nonagg hg])
theorem part_run {P : Program} {t : TypeId} {d : TypeDesc} {j : TypeInfo} (hu : P.underlying t = some d) (hi : P.info? t = some j) (w : World) {pre cs post : List Value} (hs : cs.length = j.size)
    (h1 : descAgg d = true ∨ cs.length = 1) : (part t ⟨pre ++ cs ++ post⟩ pre.length).run P w = .ok (pick (descAgg d) cs) w := by
  unfold part
  rw [Sem.run_bind, isAgg_run hu]
  simp only [Result.andThen_ok]
  cases hg : descAgg d with
  | true =>
    simp only [if_true, Sem.run_bind, sizeOf_run hi, Result.andThen_ok, Sem.run_pure, pick, cond_true]
    congr 2
    rw [← hs]
    apply Array.ext'
    simp
  | false =>
    rcases h1 with h1 | h1
    · rw [hg] at h1; cases h1
    · obtain ⟨v, rfl⟩ := List.length_eq_one_iff.1 h1
      simp [pick]

/-- what the program's types have that equality needs -/
structure EqFacts (P : Program) (hd : List Nat) : Prop where
  held : ∀ t, t ∈ hd → P.stoodInHeld t = false
  guard : ∀ t, t ∈ hd → P.eqGuardType P.depth t = false

theorem VRel.int_eq {σ : Sg} {h : Hp} {k : IntKind} {x : Int} {v : Value} {t : Tag} (hr : VRel σ h (.int k) x v t) : v = .int k x ∧ inK k x := by
  obtain ⟨c, hw, hr⟩ := hr
  simp only [Rel] at hr
  simp only [Ty.agg, wr] at hw
  rw [hr.1] at hw
  injection hw with hw _
  exact ⟨hw.symm, hr.2⟩
theorem VRel.bool_eq {σ : Sg} {h : Hp} {x : Bool} {v : Value} {t : Tag} (hr : VRel σ h .bool x v t) : v = .bool x := by
  obtain ⟨c, hw, hr⟩ := hr
  simp only [Rel] at hr
  simp only [Ty.agg, wr] at hw
  rw [hr] at hw
  injection hw with hw _
  exact hw.symm
theorem VRel.str_eq {σ : Sg} {h : Hp} {x : List Int} {v : Value} {t : Tag} (hr : VRel σ h .str x v t) : ∃ s, v = .string s ∧ ints s = x ∧ s.size ≤ maxLen := by
  obtain ⟨c, hw, hr⟩ := hr
  simp only [Rel] at hr
  obtain ⟨s, e, h1, h2⟩ := hr
  simp only [Ty.agg, wr] at hw
  rw [e] at hw
  injection hw with hw _
  exact ⟨s, hw.symm, h1, h2⟩
theorem VRel.pair_eq {σ : Sg} {h : Hp} {A B : Ty} {x : (Ty.pair A B).den} {v : Value} {t : Tag} (hr : VRel σ h (.pair A B) x v t) :
    ∃ c d, v = .agg ⟨c ++ d⟩ ∧ Rel σ h A false x.1 c (t ++ [1]) ∧ Rel σ h B false x.2 d (t ++ [2]) := by
  obtain ⟨c, hw, hr⟩ := hr
  simp only [Rel] at hr
  obtain ⟨c1, d, e, h1, h2⟩ := hr
  simp only [Ty.agg, wr] at hw
  rw [e] at hw
  exact ⟨c1, d, hw, h1, h2⟩

theorem descInt_eq {k : IntKind} {d : TypeDesc} (h : descInt k d = true) : d = .int k := by
  cases d <;> simp [descInt] at h
  rw [kn_inj h]
theorem descBool_eq {d : TypeDesc} (h : descBool d = true) : d = .bool := by cases d <;> simp [descBool] at h; rfl
theorem descStr_eq {d : TypeDesc} (h : descStr d = true) : d = .string := by cases d <;> simp [descStr] at h; rfl
theorem descFs_eq {d : TypeDesc} {l : List Field} (h : descFs d = some l) : d = .struct ⟨l⟩ := by
  cases d <;> simp [descFs] at h
  rw [← h]
theorem descSl_eq {d : TypeDesc} {e : TypeId} (h : descSl d = some e) : d = .slice e := by cases d <;> simp [descSl] at h; rw [h]
theorem descArr_eq {d : TypeDesc} {n : Nat} {e : TypeId} (h : descArr d = some (n, e)) : d = .array n e := by cases d <;> simp [descArr] at h; rw [h.1, h.2]

theorem bbeq_comm_eq (a b : Bool) : (a == b) = bbeq a b := by cases a <;> cases b <;> rfl

/-- what 'lay' says of a type's own row -/
theorem lay_row {P : Program} {tab : Tab} {hd : List Nat} (ht : TabOk P tab) {T : Ty} {t : Nat} (hl : lay tab hd T (.inl t) = true) :
    ∃ d j, P.underlying t = some d ∧ P.info? t = some j ∧ j.size = T.size ∧ descAgg d = T.agg := by
  cases T <;> simp only [lay] at hl <;> (try (simp at hl; done)) <;> split at hl <;> (try (simp at hl; done))
  all_goals
    rename_i i hi
    obtain ⟨h1, j, h2, h3, h4, h5⟩ := ht t i hi
  · simp only [Bool.and_eq_true] at hl
    have e := descInt_eq hl.1
    exact ⟨_, j, h1, h2, by rw [h3, Nat.eq_of_beq_eq_true hl.2]; rfl, by rw [e]; rfl⟩
  · simp only [Bool.and_eq_true] at hl
    have e := descBool_eq hl.1
    exact ⟨_, j, h1, h2, by rw [h3, Nat.eq_of_beq_eq_true hl.2]; rfl, by rw [e]; rfl⟩
  · simp only [Bool.and_eq_true] at hl
    have e := descStr_eq hl.1
    exact ⟨_, j, h1, h2, by rw [h3, Nat.eq_of_beq_eq_true hl.2]; rfl, by rw [e]; rfl⟩
  · split at hl
    · rename_i f fs hfs
      simp only [Bool.and_eq_true] at hl
      have e := descFs_eq hfs
      exact ⟨_, j, h1, h2, by rw [h3, Nat.eq_of_beq_eq_true hl.2]; rfl, by rw [e]; rfl⟩
    · simp at hl

theorem run_equal {P : Program} {tab : Tab} {hd : List Nat} (ht : TabOk P tab) (hF : EqFacts P hd) {σ : Sg} {h : Hp} (w : World) :
    ∀ (T : Ty), T.eqable = true →
      (∀ (t : Nat) (d : Nat), T.dep < d → lay tab hd T (.inl t) = true → ∀ {x y : T.den} {v u : Value} {p q : Tag}, VRel σ h T x v p → VRel σ h T y u q → (Op.equalIn d t v u).run P w = .ok (eqv T x y) w) ∧
      (∀ (fs : List Field) (off d : Nat), T.dep < d + 1 → lay tab hd T (.inr (fs, off)) = true → ∀ {x y : T.den} {pre pre' c c' : List Value} {p q : Tag}, pre.length = off → pre'.length = off → Rel σ h T false x c p → Rel σ h T false y c' q →
        (Op.eqFields d ⟨pre ++ c⟩ ⟨pre' ++ c'⟩ fs).run P w = .ok (eqv T x y) w) := by
  intro T
  induction T with
  | int k =>
    intro _
    refine ⟨fun t d hd' hl x y v u p q hx hy => ?_, fun fs off d _ hl => by simp [lay] at hl⟩
    obtain ⟨d, rfl⟩ : ∃ e, d = e + 1 := ⟨d - 1, by omega⟩
    simp only [lay] at hl
    split at hl
    · rename_i i hi
      simp only [Bool.and_eq_true] at hl
      rw [(VRel.int_eq hx).1, (VRel.int_eq hy).1]
      exact run_equalIn_int w d t k k x y (by rw [(ht t i hi).1, descInt_eq hl.1])
    · simp at hl
  | bool =>
    intro _
    refine ⟨fun t d hd' hl x y v u p q hx hy => ?_, fun fs off d _ hl => by simp [lay] at hl⟩
    obtain ⟨d, rfl⟩ : ∃ e, d = e + 1 := ⟨d - 1, by omega⟩
    simp only [lay] at hl
    split at hl
    · rename_i i hi
      simp only [Bool.and_eq_true] at hl
      rw [VRel.bool_eq hx, VRel.bool_eq hy]
      refine (run_equalIn_bool' (P := P) w d t x y (by rw [(ht t i hi).1, descBool_eq hl.1])).trans ?_
      exact congrArg (fun z => Result.ok z w) (bbeq_comm_eq x y)
    · simp at hl
  | str =>
    intro _
    refine ⟨fun t d hd' hl x y v u p q hx hy => ?_, fun fs off d _ hl => by simp [lay] at hl⟩
    obtain ⟨d, rfl⟩ : ∃ e, d = e + 1 := ⟨d - 1, by omega⟩
    simp only [lay] at hl
    split at hl
    · rename_i i hi
      simp only [Bool.and_eq_true] at hl
      obtain ⟨s, e1, e2, _⟩ := VRel.str_eq hx
      obtain ⟨s', e1', e2', _⟩ := VRel.str_eq hy
      rw [e1, e1']
      refine (run_equalIn_string (P := P) w d t s s' (by rw [(ht t i hi).1, descStr_eq hl.1])).trans ?_
      rw [ints_eq, e2, e2']
      rfl
    · simp at hl
  | unit =>
    intro _
    refine ⟨fun t d hd' hl => by simp [lay] at hl, fun fs off d _ hl x y pre pre' c c' p q h1 h2 hx hy => ?_⟩
    cases fs with
    | nil => simp [Op.eqFields, eqv]
    | cons f fs => simp [lay] at hl
  | pair a b iha ihb =>
    intro he
    simp only [Ty.eqable, Bool.and_eq_true] at he
    obtain ⟨iha1, _⟩ := iha he.1
    obtain ⟨_, ihb2⟩ := ihb he.2
    have key : ∀ (f : Field) (fs : List Field) (off d : Nat), a.dep < d → b.dep < d + 1 → (f.name != "_") = true → f.offset = off → lay tab hd a (.inl f.type) = true → lay tab hd b (.inr (fs, off + a.size)) = true →
        ∀ {x y : (Ty.pair a b).den} {pre pre' c c' : List Value} {p q : Tag}, pre.length = off → pre'.length = off → Rel σ h (.pair a b) false x c p → Rel σ h (.pair a b) false y c' q →
        (Op.eqFields d ⟨pre ++ c⟩ ⟨pre' ++ c'⟩ (f :: fs)).run P w = .ok (eqv (.pair a b) x y) w := by
      intro f fs off d h1 h2 hn ho hla hlb x y pre pre' c c' p q hp hq hx hy
      obtain ⟨dd, j, hu, hi, hsz, hag⟩ := lay_row ht hla
      simp only [Rel] at hx hy
      obtain ⟨c1, c2, rfl, hx1, hx2⟩ := hx
      obtain ⟨d1, d2, rfl, hy1, hy2⟩ := hy
      have hn' : f.name ≠ "_" := by simpa using hn
      have one : ∀ (l : List Value) (z : a.den) (s : Tag), Rel σ h a false z l s → descAgg dd = true ∨ l.length = 1 := by
        intro l z s hz
        rw [hag]
        cases hg : a.agg with
        | true => exact .inl rfl
        | false => exact .inr (by rw [hz.length, size_nonagg hg])
      have p1 := part_run (P := P) hu hi w (pre := pre) (cs := c1) (post := c2) (by rw [hx1.length, hsz]) (one _ _ _ hx1)
      have p2 := part_run (P := P) hu hi w (pre := pre') (cs := d1) (post := d2) (by rw [hy1.length, hsz]) (one _ _ _ hy1)
      rw [hp, List.append_assoc] at p1
      rw [hq, List.append_assoc] at p2
      rw [hag] at p1 p2
      have p3 := iha1 f.type d h1 hla (VRel.of_rel hx1) (VRel.of_rel hy1)
      have p4 := ihb2 fs (off + a.size) d h2 hlb (pre := pre ++ c1) (pre' := pre' ++ d1) (by rw [List.length_append, hp, hx1.length]) (by rw [List.length_append, hq, hy1.length]) hx2 hy2
      rw [List.append_assoc, List.append_assoc] at p4
      simp only [Op.eqFields, hn', ne_eq, not_false_eq_true, if_true, Sem.run_bind, ho, p1, p2, p3, Result.andThen_ok]
      simp only [eqv]
      cases he1 : eqv a x.1 y.1 with
      | true => simp [p4]
      | false => simp
    refine ⟨fun t d hd' hl x y v u p q hx hy => ?_, fun fs off d hd' hl x y pre pre' c c' p q h1 h2 hx hy => ?_⟩
    · simp only [Ty.dep] at hd'
      obtain ⟨d, rfl⟩ : ∃ e, d = e + 1 := ⟨d - 1, by omega⟩
      simp only [lay] at hl
      split at hl
      · rename_i i hi
        split at hl
        · rename_i f fs hfs
          simp only [Bool.and_eq_true] at hl
          obtain ⟨⟨⟨⟨⟨g1, g2⟩, g3⟩, g4⟩, g5⟩, g6⟩ := hl
          have hu : P.underlying t = some (.struct (P.fieldsOf t)) := by
            have := (ht t i hi).1
            rw [descFs_eq hfs] at this
            rw [this]
            simp [Program.fieldsOf, this]
          have hfo : (P.fieldsOf t).toList = f :: fs := by
            have := (ht t i hi).1
            rw [descFs_eq hfs] at this
            simp [Program.fieldsOf, this]
          obtain ⟨c1, d1, rfl, hx1, hx2⟩ := VRel.pair_eq hx
          obtain ⟨c2, d2, rfl, hy1, hy2⟩ := VRel.pair_eq hy
          rw [run_equalIn_struct w d t _ _ hu (hF.held t (by simpa using g1)), hfo]
          have := key f fs 0 d (by omega) (by omega) g2 (Nat.eq_of_beq_eq_true g3) g4 (by simpa using g5) (x := x) (y := y) (pre := []) (pre' := []) (c := c1 ++ d1) (c' := c2 ++ d2) (p := p) (q := q) rfl rfl
            (by simp only [Rel]; exact ⟨c1, d1, rfl, hx1, hx2⟩) (by simp only [Rel]; exact ⟨c2, d2, rfl, hy1, hy2⟩)
          simpa using this
        · simp at hl
      · simp at hl
    · simp only [Ty.dep] at hd'
      cases fs with
      | nil => simp [lay] at hl
      | cons f fs =>
        simp only [lay, Bool.and_eq_true] at hl
        exact key f fs off d (by omega) (by omega) hl.1.1.1 (Nat.eq_of_beq_eq_true hl.1.1.2) hl.1.2 hl.2 h1 h2 hx hy
  | arr n e _ => intro _; exact ⟨fun t d _ hl => by simp [lay] at hl, fun fs off d _ hl => by simp [lay] at hl⟩
  | _ => intro he; simp [Ty.eqable] at he
end Go.Proofs.Bw
namespace Go.Proofs.Bw
open Go

theorem offAt_noIdx : ∀ {T : Ty} {p : Tag} {o s n : Nat}, hasIdx p = false → offAt T p = some (o, s, n) → s = 0 ∧ n = 1 := by
  intro T
  induction T with
  | pair a b iha ihb =>
    intro p o s n hp ho
    cases p with
    | nil => simp only [offAt, Option.some.injEq, Prod.mk.injEq] at ho; exact ⟨ho.2.1.symm, ho.2.2.symm⟩
    | cons k p =>
      simp only [hasIdx, Bool.or_eq_false_iff] at hp
      match k, ho with
      | 1, ho => simp only [offAt] at ho; exact iha hp.2 ho
      | 2, ho =>
        simp only [offAt] at ho
        split at ho
        · rename_i o' s' n' ho'
          simp only [Option.some.injEq, Prod.mk.injEq] at ho
          obtain ⟨h1, h2⟩ := ihb hp.2 ho'
          exact ⟨by rw [← ho.2.1, h1], by rw [← ho.2.2, h2]⟩
        · simp at ho
      | 0, ho => simp [offAt] at ho
      | k + 3, ho => simp [offAt] at ho
  | arr m e ih =>
    intro p o s n hp ho
    cases p with
    | nil => simp only [offAt, Option.some.injEq, Prod.mk.injEq] at ho; exact ⟨ho.2.1.symm, ho.2.2.symm⟩
    | cons k p =>
      simp only [hasIdx, Bool.or_eq_false_iff] at hp
      match k, ho, hp with
      | 3, ho, hp => simp at hp
      | 0, ho, hp => simp [offAt] at ho
      | 1, ho, hp => simp [offAt] at ho
      | 2, ho, hp => simp [offAt] at ho
      | k + 4, ho, hp => simp [offAt] at ho
  | _ =>
    intro p o s n hp ho
    cases p with
    | nil => simp only [offAt, Option.some.injEq, Prod.mk.injEq] at ho; exact ⟨ho.2.1.symm, ho.2.2.symm⟩
    | cons k p => simp [offAt] at ho

theorem EList.get {α : Type} {R : α → List Value → Prop} {n : Nat} (k : ∀ x c, R x c → c.length = n) : ∀ {xs : List α} {cs : List Value} {i : Nat} {x : α}, EList R xs cs → xs[i]? = some x →
    ∃ pre c post, cs = pre ++ c ++ post ∧ pre.length = i * n ∧ R x c
  | [], _, i, x, _, hx => by simp at hx
  | y :: xs, _, 0, x, ⟨c, d, e, h1, h2⟩, hx => by
    simp at hx
    subst hx
    exact ⟨[], c, d, by simpa using e, by simp, h1⟩
  | y :: xs, _, i + 1, x, ⟨c, d, e, h1, h2⟩, hx => by
    simp at hx
    obtain ⟨pre, c', post, e', hp, hr⟩ := EList.get k h2 hx
    exact ⟨c ++ pre, c', post, by rw [e, e']; simp, by rw [List.length_append, k _ _ h1, hp, Nat.add_mul]; omega, hr⟩
theorem EList.set {α : Type} {R : α → List Value → Prop} {n : Nat} (k : ∀ x c, R x c → c.length = n) : ∀ {xs : List α} {cs : List Value} {i : Nat} {x : α} {pre c post c' : List Value}, EList R xs cs → i < xs.length →
    cs = pre ++ c ++ post → pre.length = i * n → c.length = n → R x c' → EList R (xs.set i x) (pre ++ c' ++ post)
  | [], _, i, _, _, _, _, _, _, hi, _, _, _, _ => by simp at hi
  | y :: xs, cs, 0, x, pre, c, post, c', ⟨d, e, h0, h1, h2⟩, hi, hc, hp, hl, hr => by
    simp at hp
    subst hp
    simp only [List.nil_append] at hc
    rw [hc] at h0
    have hd := List.append_inj h0 (by rw [hl, k _ _ h1])
    obtain ⟨rfl, rfl⟩ := hd
    exact ⟨c', post, by simp, hr, h2⟩
  | y :: xs, cs, i + 1, x, pre, c, post, c', ⟨d, e, h0, h1, h2⟩, hi, hc, hp, hl, hr => by
    have hd : pre.take n = d ∧ pre.drop n ++ c ++ post = e := by
      have : pre.take n ++ (pre.drop n ++ c ++ post) = d ++ e := by
        rw [← h0, hc, ← List.append_assoc, ← List.append_assoc, List.take_append_drop]
      have hlen : (pre.take n).length = d.length := by
        rw [List.length_take, hp, k _ _ h1, Nat.add_mul]; omega
      exact List.append_inj this hlen
    obtain ⟨hd1, hd2⟩ := hd
    have ih := EList.set k (i := i) (x := x) (pre := pre.drop n) (c := c) (post := post) (c' := c') h2 (by simp at hi; omega) hd2.symm (by rw [List.length_drop, hp, Nat.add_mul]; omega) hl hr
    refine ⟨d, pre.drop n ++ c' ++ post, ?_, h1, by simpa using ih⟩
    rw [← hd1, ← List.append_assoc, ← List.append_assoc, List.take_append_drop]

/-- the value at a path inside one block -/
theorem getIn {σ : Sg} {h : Hp} {R : Type} : ∀ {T : Ty} {x : T.den} {p : Tag} {i : Int} {K : SV → Option R} {r : R} {cs : List Value} {t : Tag} {o s n : Nat},
    getK T x p i K = some r → Rel σ h T false x cs t → offAt T p = some (o, s, n) →
    ∃ v pre c post, K v = some r ∧ cs = pre ++ c ++ post ∧ pre.length = o + s * i.toNat ∧ Rel σ h v.T false v.x c (t ++ p) ∧ (T.closed = true → v.T.closed = true) := by
  intro T
  induction T with
  | pair a b iha ihb =>
    intro x p i K r cs t o s n hg hr ho
    cases p with
    | nil =>
      simp only [offAt, Option.some.injEq, Prod.mk.injEq] at ho
      obtain ⟨rfl, rfl, rfl⟩ := ho
      simp only [getK] at hg
      exact ⟨_, [], cs, [], hg, by simp, by simp, by simpa using hr, fun hh => hh⟩
    | cons k p =>
      match k, hg, ho with
      | 1, hg, ho =>
        simp only [getK, offAt] at hg ho
        simp only [Rel] at hr
        obtain ⟨c, d, rfl, h1, h2⟩ := hr
        obtain ⟨v, pre, c', post, e1, e2, e3, e4, e5⟩ := iha hg h1 ho
        exact ⟨v, pre, c', post ++ d, e1, by rw [e2]; simp, e3, by simpa using e4, fun hh => e5 (by simp only [Ty.closed, Bool.and_eq_true] at hh; exact hh.1)⟩
      | 2, hg, ho =>
        simp only [getK, offAt] at hg ho
        split at ho
        · rename_i o' s' n' ho'
          simp only [Option.some.injEq, Prod.mk.injEq] at ho
          obtain ⟨rfl, rfl, rfl⟩ := ho
          simp only [Rel] at hr
          obtain ⟨c, d, rfl, h1, h2⟩ := hr
          obtain ⟨v, pre, c', post, e1, e2, e3, e4, e5⟩ := ihb hg h2 ho'
          exact ⟨v, c ++ pre, c', post, e1, by rw [e2]; simp, by rw [List.length_append, h1.length, e3]; omega, by simpa using e4, fun hh => e5 (by simp only [Ty.closed, Bool.and_eq_true] at hh; exact hh.2)⟩
        · simp at ho
      | 0, hg, ho => simp [getK] at hg
      | k + 3, hg, ho => simp [getK] at hg
  | arr m e ih =>
    intro x p i K r cs t o s n hg hr ho
    cases p with
    | nil =>
      simp only [offAt, Option.some.injEq, Prod.mk.injEq] at ho
      obtain ⟨rfl, rfl, rfl⟩ := ho
      simp only [getK] at hg
      exact ⟨_, [], cs, [], hg, by simp, by simp, by simpa using hr, fun hh => hh⟩
    | cons k p =>
      match k, hg, ho with
      | 3, hg, ho =>
        simp only [getK, offAt] at hg ho
        cases hpi : hasIdx p with
        | true => rw [hpi] at ho; simp at ho
        | false =>
        rw [hpi] at ho
        simp only [cond_false] at ho
        split at ho
        · rename_i o' s' n' ho'
          have hz := offAt_noIdx hpi ho'
          obtain ⟨rfl, rfl⟩ := hz
          simp only [Option.some.injEq, Prod.mk.injEq] at ho
          obtain ⟨rfl, rfl, rfl⟩ := ho
          simp only [Rel] at hr
          cases hx : lnth (α := e.den) x i with
          | none => rw [hx] at hg; simp at hg
          | some y =>
            rw [hx] at hg
            simp only [Option.bind_some] at hg
            obtain ⟨pre, c, post, e1, e2, e3⟩ := EList.get (fun _ _ hh => Rel.length hh) hr.2 (show (show List e.den from x)[i.toNat]? = some y from hx)
            obtain ⟨v, pre', c', post', f1, f2, f3, f4, f5⟩ := ih (t := t ++ [3]) hg e3 ho'
            exact ⟨v, pre ++ pre', c', post' ++ post, f1, by rw [e1, f2]; simp, by rw [List.length_append, e2, f3, Nat.zero_mul, Nat.mul_comm]; omega, by simpa using f4, fun hh => f5 (Ty.closed_of_pure (by simpa [Ty.closed] using hh))⟩
        · simp at ho
      | 0, hg, ho => simp [getK] at hg
      | 1, hg, ho => simp [getK] at hg
      | 2, hg, ho => simp [getK] at hg
      | k + 4, hg, ho => simp [getK] at hg
  | _ =>
    intro x p i K r cs t o s n hg hr ho
    cases p with
    | nil =>
      simp only [offAt, Option.some.injEq, Prod.mk.injEq] at ho
      obtain ⟨rfl, rfl, rfl⟩ := ho
      simp only [getK] at hg
      exact ⟨_, [], cs, [], hg, by simp, by simp, by simpa using hr, fun hh => hh⟩
    | cons k p => simp [offAt] at ho

theorem lset_length {α : Type} (l : List α) (i : Int) (v : α) : (lset l i v).length = l.length := by simp [lset]
theorem rel_cast {σ : Sg} {h : Hp} {a b : Ty} (e : a.beq b = true) {m : Bool} {x : a.den} {cs : List Value} {t : Tag} (hr : Rel σ h a m x cs t) : Rel σ h b m (Ty.cast e x) cs t := by
  have := Ty.eq_of_beq e
  subst this
  exact hr

/-- a write inside one block: the cells of the place are others now, what stands beside it is as it was -/
theorem setIn {σ : Sg} {h : Hp} {R : Type} : ∀ {T : Ty} {x : T.den} {p : Tag} {i : Int} {v : SV} {K : SV → Option R} {r : R} {cs : List Value} {t : Tag} {o s n : Nat},
    setK T x p i v K = some r → T.closed = true → Rel σ h T false x cs t → offAt T p = some (o, s, n) → (hasIdx p = true → i.toNat < n) →
    ∃ w pre c post, K w = some r ∧ cs = pre ++ c ++ post ∧ pre.length = o + s * i.toNat ∧ c.length = v.T.size ∧ w.T.size = T.size ∧ (v.T.closed = true → w.T.closed = true) ∧
      ∀ (σ' : Sg) (h' : Hp) (c' : List Value), σ.le σ' → (∀ b blk q, h b = some blk → blk.tag = t ++ q → isPre p q = false → h' b = some blk) → Rel σ' h' v.T false v.x c' (t ++ p) →
        Rel σ' h' w.T false w.x (pre ++ c' ++ post) t := by
  intro T
  induction T with
  | pair a b iha ihb =>
    intro x p i v K r cs t o s n hg hcl hr ho hi
    cases p with
    | nil =>
      simp only [offAt, Option.some.injEq, Prod.mk.injEq] at ho
      obtain ⟨rfl, rfl, rfl⟩ := ho
      simp only [setK] at hg
      cases hs : Nat.beq v.T.size (Ty.pair a b).size with
      | false => rw [hs] at hg; simp at hg
      | true =>
        rw [hs] at hg
        have hs' := Nat.eq_of_beq_eq_true hs
        exact ⟨v, [], cs, [], hg, by simp, by simp, by rw [hr.length, hs'], hs', fun hh => hh, fun σ' h' c' _ _ hk => by simpa using hk⟩
    | cons k p =>
      simp only [Ty.closed, Bool.and_eq_true] at hcl
      match k, hg, ho, hi with
      | 1, hg, ho, hi =>
        simp only [setK, offAt] at hg ho
        simp only [Rel] at hr
        obtain ⟨c1, d, rfl, h1, h2⟩ := hr
        obtain ⟨w, pre, c, post, e1, e2, e3, e4, e5, e7, e6⟩ := iha hg hcl.1 h1 ho (fun hh => hi (by simpa [hasIdx] using hh))
        refine ⟨⟨.pair w.T b, (w.x, x.2)⟩, pre, c, post ++ d, e1, by rw [e2]; simp, e3, e4, by simp [Ty.size, e5], fun hh => by simp [Ty.closed, e7 hh, hcl.2], fun σ' h' c' hσ H hk => ?_⟩
        simp only [Rel]
        refine ⟨pre ++ c' ++ post, d, by simp, e6 σ' h' c' hσ (fun b blk q hb ht hq => H b blk (1 :: q) hb (by rw [ht]; simp) (by simp [isPre, hq])) (by simpa using hk), ?_⟩
        refine Rel.move hσ hcl.2 (fun b blk q hb ht => ?_) h2
        rw [H b blk (2 :: q) hb (by rw [ht]; simp) (by simp [isPre]), ← ht]
        cases blk <;> rfl
      | 2, hg, ho, hi =>
        simp only [setK, offAt] at hg ho
        split at ho
        · rename_i o' s' n' ho'
          simp only [Option.some.injEq, Prod.mk.injEq] at ho
          obtain ⟨rfl, rfl, rfl⟩ := ho
          simp only [Rel] at hr
          obtain ⟨c1, d, rfl, h1, h2⟩ := hr
          obtain ⟨w, pre, c, post, e1, e2, e3, e4, e5, e7, e6⟩ := ihb hg hcl.2 h2 ho' (fun hh => hi (by simpa [hasIdx] using hh))
          refine ⟨⟨.pair a w.T, (x.1, w.x)⟩, c1 ++ pre, c, post, e1, by rw [e2]; simp, by rw [List.length_append, h1.length, e3]; omega, e4, by simp [Ty.size, e5], fun hh => by simp [Ty.closed, e7 hh, hcl.1], fun σ' h' c' hσ H hk => ?_⟩
          simp only [Rel]
          refine ⟨c1, pre ++ c' ++ post, by simp, ?_, e6 σ' h' c' hσ (fun b blk q hb ht hq => H b blk (2 :: q) hb (by rw [ht]; simp) (by simp [isPre, hq])) (by simpa using hk)⟩
          refine Rel.move hσ hcl.1 (fun b blk q hb ht => ?_) h1
          rw [H b blk (1 :: q) hb (by rw [ht]; simp) (by simp [isPre]), ← ht]
          cases blk <;> rfl
        · simp at ho
      | 0, hg, ho, hi => simp [setK] at hg
      | k + 3, hg, ho, hi => simp [setK] at hg
  | arr m e ih =>
    intro x p i v K r cs t o s n hg hcl hr ho hi
    cases p with
    | nil =>
      simp only [offAt, Option.some.injEq, Prod.mk.injEq] at ho
      obtain ⟨rfl, rfl, rfl⟩ := ho
      simp only [setK] at hg
      cases hs : Nat.beq v.T.size (Ty.arr m e).size with
      | false => rw [hs] at hg; simp at hg
      | true =>
        rw [hs] at hg
        have hs' := Nat.eq_of_beq_eq_true hs
        exact ⟨v, [], cs, [], hg, by simp, by simp, by rw [hr.length, hs'], hs', fun hh => hh, fun σ' h' c' _ _ hk => by simpa using hk⟩
    | cons k p =>
      match k, hg, ho, hi with
      | 3, hg, ho, hi =>
        simp only [offAt] at ho
        cases hpi : hasIdx p with
        | true => rw [hpi] at ho; simp at ho
        | false =>
        rw [hpi] at ho
        simp only [cond_false] at ho
        split at ho
        · rename_i o' s' n' ho'
          have hz := offAt_noIdx hpi ho'
          obtain ⟨rfl, rfl⟩ := hz
          simp only [Option.some.injEq, Prod.mk.injEq] at ho
          obtain ⟨rfl, rfl, rfl⟩ := ho
          simp only [Rel] at hr
          have hlt : i.toNat < List.length (α := e.den) x := by rw [hr.1]; exact hi (by simp [hasIdx])
          have hxy : ∃ y, (show List e.den from x)[i.toNat]? = some y := ⟨_, List.getElem?_eq_getElem hlt⟩
          obtain ⟨y, hy⟩ := hxy
          obtain ⟨pre, c, post, e1, e2, e3⟩ := EList.get (fun _ _ hh => Rel.length hh) hr.2 hy
          have hpe : e.pure = true := by simpa [Ty.closed] using hcl
          -- what comes back once the element is set
          have fin : ∀ (w : SV) (hw : w.T.beq e = true) (σ' : Sg) (h' : Hp) (c' : List Value), σ.le σ' → Rel σ' h' w.T false w.x c' (t ++ [3]) →
              Rel σ' h' (.arr m e) false (lset (α := e.den) x i (Ty.cast hw w.x)) (pre ++ c' ++ post) t := by
            intro w hw σ' h' c' hσ hk
            simp only [Rel]
            refine ⟨(lset_length (α := e.den) x i _).trans hr.1, ?_⟩
            exact EList.set (fun _ _ hh => Rel.length hh) (hr.2.imp fun _ _ hh => Rel.pure hσ hpe hh) hlt e1 e2 e3.length (rel_cast hw hk)
          cases p with
          | nil =>
            simp only [setK] at hg
            split at hg
            · rename_i hb
              have hte := Ty.eq_of_beq hb
              simp only [offAt, Option.some.injEq, Prod.mk.injEq] at ho'
              refine ⟨_, pre, c, post, hg, e1, by rw [e2, ← ho'.1, Nat.mul_comm]; omega, by rw [e3.length, hte], rfl, fun _ => hcl, fun σ' h' c' hσ _ hk => fin v hb σ' h' c' hσ hk⟩
            · simp at hg
          | cons k2 p2 =>
            simp only [setK] at hg
            rw [show lnth (α := e.den) x i = some y from hy] at hg
            simp only [Option.bind_some] at hg
            obtain ⟨w, pre', c', post', f1, f2, f3, f4, f5, _, f6⟩ := ih (t := t ++ [3]) hg (Ty.closed_of_pure hpe) e3 ho' (fun hh => by rw [hpi] at hh; cases hh)
            split at f1
            · rename_i hb
              refine ⟨_, pre ++ pre', c', post' ++ post, f1, by rw [e1, f2]; simp, by rw [List.length_append, e2, f3, Nat.zero_mul, Nat.mul_comm]; omega, f4, rfl, fun _ => hcl, fun σ' h' d' hσ H hk => ?_⟩
              have := fin w hb σ' h' (pre' ++ d' ++ post') hσ (f6 σ' h' d' hσ (fun b blk q hb' ht hq => H b blk (3 :: q) hb' (by rw [ht]; simp) (by simp [isPre] at hq ⊢; exact hq)) (by simpa using hk))
              simpa using this
            · simp at f1
        · simp at ho
      | 0, hg, ho, hi => simp [setK] at hg
      | 1, hg, ho, hi => simp [setK] at hg
      | 2, hg, ho, hi => simp [setK] at hg
      | k + 4, hg, ho, hi => simp [setK] at hg
  | _ =>
    intro x p i v K r cs t o s n hg hcl hr ho hi
    cases p with
    | nil =>
      simp only [offAt, Option.some.injEq, Prod.mk.injEq] at ho
      obtain ⟨rfl, rfl, rfl⟩ := ho
      simp only [setK] at hg
      generalize hsz : Nat.beq v.T.size _ = bb at hg
      cases bb with
      | false => simp at hg
      | true =>
        have hs' := Nat.eq_of_beq_eq_true hsz
        exact ⟨v, [], cs, [], hg, by simp, by simp, by rw [hr.length, hs'], hs', fun hh => hh, fun σ' h' c' _ _ hk => by simpa using hk⟩
    | cons k p => simp [offAt] at ho

/-- down a path of fields and pointers: what is there, and how the whole is made of it again -/
theorem zoom {σ : Sg} {h : Hp} : ∀ {T : Ty} {x : T.den} {q : Tag} {U : Ty} {cs : List Value} {t : Tag}, tyAt T q = some U → hasIdx q = false → T.closed = true → Rel σ h T false x cs t →
    ∃ (y : U.den) (c : List Value) (f : SV → SV), Rel σ h U false y c (t ++ q) ∧ U.closed = true ∧ (∀ (R : Type) (p : Tag) (i : Int) (K : SV → Option R), getK T x (q ++ p) i K = getK U y p i K) ∧
      (∀ (R : Type) (p : Tag) (i : Int) (v : SV) (K : SV → Option R), setK T x (q ++ p) i v K = setK U y p i v (fun u => K (f u))) ∧
      (∀ (u : SV), (u.T.closed = true → (f u).T.closed = true) ∧ (u.T.pure = false → (f u).T.pure = false) ∧ (u.T.agg = U.agg → (f u).T.agg = T.agg)) ∧
      ∀ (u : SV) (σ' : Sg) (h' : Hp), u.T.size = U.size → σ.le σ' → (∀ b blk r, h b = some blk → blk.tag = t ++ r → isPre q r = false → h' b = some blk) → Rel σ' h' u.T false u.x c (t ++ q) →
        Rel σ' h' (f u).T false (f u).x cs t ∧ (f u).T.size = T.size := by
  intro T
  induction T with
  | pair a b iha ihb =>
    intro x q U cs t ht hq hcl hr
    cases q with
    | nil =>
      simp only [tyAt, Option.some.injEq] at ht
      subst ht
      exact ⟨x, cs, id, by simpa using hr, hcl, fun R p i K => rfl, fun R p i v K => rfl, fun u => ⟨fun hu => hu, fun hu => hu, fun hu => hu⟩, fun u σ' h' hs _ _ hk => ⟨by simpa using hk, hs⟩⟩
    | cons k q =>
      simp only [Ty.closed, Bool.and_eq_true] at hcl
      simp only [hasIdx, Bool.or_eq_false_iff] at hq
      match k, ht with
      | 1, ht =>
        simp only [tyAt] at ht
        simp only [Rel] at hr
        obtain ⟨c1, d, rfl, h1, h2⟩ := hr
        obtain ⟨y, c, f, e1, e2, e3, e4, e5, e6⟩ := iha ht hq.2 hcl.1 h1
        refine ⟨y, c, fun u => ⟨.pair (f u).T b, ((f u).x, x.2)⟩, by simpa using e1, e2, fun R p i K => e3 R p i K, fun R p i v K => e4 R p i v (fun u => K ⟨.pair u.T b, (u.x, x.2)⟩), fun u => ⟨fun hu => by simp [Ty.closed, (e5 u).1 hu, hcl.2], fun hu => by simp [Ty.pure, (e5 u).2.1 hu], fun _ => rfl⟩, fun u σ' h' hs hσ H hk => ?_⟩
        obtain ⟨g1, g2⟩ := e6 u σ' h' hs hσ (fun b blk r hb htg hp => H b blk (1 :: r) hb (by rw [htg]; simp) (by simp [isPre, hp])) (by simpa using hk)
        refine ⟨?_, by simp [Ty.size, g2]⟩
        simp only [Rel]
        refine ⟨c1, d, rfl, g1, Rel.move hσ hcl.2 (fun b blk r hb htg => ?_) h2⟩
        rw [H b blk (2 :: r) hb (by rw [htg]; simp) (by simp [isPre]), ← htg]
        cases blk <;> rfl
      | 2, ht =>
        simp only [tyAt] at ht
        simp only [Rel] at hr
        obtain ⟨c1, d, rfl, h1, h2⟩ := hr
        obtain ⟨y, c, f, e1, e2, e3, e4, e5, e6⟩ := ihb ht hq.2 hcl.2 h2
        refine ⟨y, c, fun u => ⟨.pair a (f u).T, (x.1, (f u).x)⟩, by simpa using e1, e2, fun R p i K => e3 R p i K, fun R p i v K => e4 R p i v (fun u => K ⟨.pair a u.T, (x.1, u.x)⟩), fun u => ⟨fun hu => by simp [Ty.closed, (e5 u).1 hu, hcl.1], fun hu => by simp [Ty.pure, (e5 u).2.1 hu], fun _ => rfl⟩, fun u σ' h' hs hσ H hk => ?_⟩
        obtain ⟨g1, g2⟩ := e6 u σ' h' hs hσ (fun b blk r hb htg hp => H b blk (2 :: r) hb (by rw [htg]; simp) (by simp [isPre, hp])) (by simpa using hk)
        refine ⟨?_, by simp [Ty.size, g2]⟩
        simp only [Rel]
        refine ⟨c1, d, rfl, Rel.move hσ hcl.1 (fun b blk r hb htg => ?_) h1, g1⟩
        rw [H b blk (1 :: r) hb (by rw [htg]; simp) (by simp [isPre]), ← htg]
        cases blk <;> rfl
      | 0, ht => simp [tyAt] at ht
      | k + 3, ht => simp [tyAt] at ht
  | box e ih =>
    intro x q U cs t ht hq hcl hr
    cases q with
    | nil =>
      simp only [tyAt, Option.some.injEq] at ht
      subst ht
      exact ⟨x, cs, id, by simpa using hr, hcl, fun R p i K => rfl, fun R p i v K => rfl, fun u => ⟨fun hu => hu, fun hu => hu, fun hu => hu⟩, fun u σ' h' hs _ _ hk => ⟨by simpa using hk, hs⟩⟩
    | cons k q =>
      simp only [Ty.closed] at hcl
      simp only [hasIdx, Bool.or_eq_false_iff] at hq
      match k, ht with
      | 0, ht =>
        simp only [tyAt] at ht
        simp only [Rel] at hr
        obtain ⟨b, ch, h1, h2, h3⟩ := hr
        obtain ⟨y, c, f, e1, e2, e3, e4, e5, e6⟩ := ih ht hq.2 hcl h3
        refine ⟨y, c, fun u => ⟨.box (f u).T, (f u).x⟩, by simpa using e1, e2, fun R p i K => e3 R p i K, fun R p i v K => e4 R p i v (fun u => K ⟨.box u.T, u.x⟩), fun u => ⟨fun hu => by simp [Ty.closed, (e5 u).1 hu], fun _ => rfl, fun _ => rfl⟩, fun u σ' h' hs hσ H hk => ?_⟩
        obtain ⟨g1, g2⟩ := e6 u σ' h' hs hσ (fun b blk r hb htg hp => H b blk (0 :: r) hb (by rw [htg]; simp) (by simp [isPre, hp])) (by simpa using hk)
        refine ⟨?_, rfl⟩
        simp only [Rel]
        exact ⟨b, ch, h1, H b _ [] h2 (by simp [Blk.tag]) (by simp [isPre]), g1⟩
      | k + 1, ht => simp [tyAt] at ht
  | _ =>
    intro x q U cs t ht hq hcl hr
    cases q with
    | nil =>
      simp only [tyAt, Option.some.injEq] at ht
      subst ht
      exact ⟨x, cs, id, by simpa using hr, hcl, fun R p i K => rfl, fun R p i v K => rfl, fun u => ⟨fun hu => hu, fun hu => hu, fun hu => hu⟩, fun u σ' h' hs _ _ hk => ⟨by simpa using hk, hs⟩⟩
    | cons k q =>
      simp only [hasIdx, Bool.or_eq_false_iff] at hq
      first
        | (simp [tyAt] at ht; done)
        | (match k, ht, hq with
           | 3, ht, hq => simp at hq
           | 0, ht, hq => simp [tyAt] at ht
           | 1, ht, hq => simp [tyAt] at ht
           | 2, ht, hq => simp [tyAt] at ht
           | k + 4, ht, hq => simp [tyAt] at ht)
end Go.Proofs.Bw
namespace Go.Proofs.Bw
open Go

theorem addr_add (b off j : Nat) : (⟨b, off, none⟩ : Addr).add j = ⟨b, off + j, none⟩ := by unfold Addr.add; split <;> simp_all
theorem load_run {P : Program} {t : TypeId} {d : TypeDesc} {j : TypeInfo} {w : World} {b off : Nat} {c : List Value} (hu : P.underlying t = some d) (hi : P.info? t = some j)
    (hc : ∀ k v, c[k]? = some v → w.cell? ⟨b, off + k, none⟩ = some v) (hs : c.length = j.size) (h1 : descAgg d = true ∨ c.length = 1) : (loadVar t ⟨b, off, none⟩).run P w = .ok (pick (descAgg d) c) w := by
  unfold loadVar
  rw [Sem.run_bind, isAgg_run hu]
  simp only [Result.andThen_ok]
  cases hg : descAgg d with
  | true =>
    have hl := run_loadCells_list (P := P) w ⟨b, off, none⟩ c (fun k v hk => by rw [addr_add]; exact hc k v hk)
    rw [hs] at hl
    simp only [if_true, Sem.run_bind, sizeOf_run hi, Result.andThen_ok, hl, Sem.run_pure, pick, cond_true]
  | false =>
    rcases h1 with h1 | h1
    · rw [hg] at h1; cases h1
    · obtain ⟨v, rfl⟩ := List.length_eq_one_iff.1 h1
      have := hc 0 v rfl
      simp only [Nat.add_zero] at this
      simp [load, Sem.run, this, pick]
theorem cell_at {w : World} {σ : Sg} {h : Hp} (I : Inv w σ h) {b : Nat} {blk : Blk} {cs : List Value} (hb : h b = some blk) (hc : blk.cells? = some cs) (k : Nat) : w.cell? ⟨b, k, none⟩ = cs[k]? := by
  obtain ⟨e, lo, hi, h1, _⟩ := I.cells b blk cs hb hc
  simp [World.cell?, h1]
def tabSz (tab : Tab) (t sz : Nat) (ag : Bool) : Bool := match tab.get t with
  | some i => Nat.beq i.size sz && bbeq (descAgg i.desc) ag
  | none => false
theorem tabSz_ok {P : Program} {tab : Tab} (ht : TabOk P tab) {t sz : Nat} {ag : Bool} (h : tabSz tab t sz ag = true) : ∃ d j, P.underlying t = some d ∧ P.info? t = some j ∧ j.size = sz ∧ descAgg d = ag := by
  unfold tabSz at h
  split at h
  · rename_i i hi
    simp only [Bool.and_eq_true] at h
    obtain ⟨h1, j, h2, h3, _⟩ := ht t i hi
    exact ⟨_, j, h1, h2, by rw [h3, Nat.eq_of_beq_eq_true h.1], bbeq_eq h.2⟩
  · simp at h

theorem tyAt_D : ∀ {T : Ty} {q : Tag} {C : Ty}, tyAt T (q ++ [0]) = some C → tyAt T q = some (.box C) := by
  intro T
  induction T with
  | pair a b iha ihb =>
    intro q C hq
    cases q with
    | nil => simp [tyAt] at hq
    | cons k q =>
      match k, hq with
      | 1, hq => simp only [List.cons_append, tyAt] at hq ⊢; exact iha hq
      | 2, hq => simp only [List.cons_append, tyAt] at hq ⊢; exact ihb hq
      | 0, hq => simp [tyAt] at hq
      | k + 3, hq => simp [tyAt] at hq
  | arr m e ih =>
    intro q C hq
    cases q with
    | nil => simp [tyAt] at hq
    | cons k q =>
      match k, hq with
      | 3, hq => simp only [List.cons_append, tyAt] at hq ⊢; exact ih hq
      | 0, hq => simp [tyAt] at hq
      | 1, hq => simp [tyAt] at hq
      | 2, hq => simp [tyAt] at hq
      | k + 4, hq => simp [tyAt] at hq
  | box e ih =>
    intro q C hq
    cases q with
    | nil => simp only [List.nil_append, tyAt, Option.some.injEq] at hq ⊢; rw [hq]
    | cons k q =>
      match k, hq with
      | 0, hq => simp only [List.cons_append, tyAt] at hq ⊢; exact ih hq
      | k + 1, hq => simp [tyAt] at hq
  | _ =>
    intro q C hq
    cases q with
    | nil => simp [tyAt] at hq
    | cons k q => simp [tyAt] at hq

section
variable {P : Program} {R : Type} {σ : Sg} {h : Hp} {st : St} {a : Act} {w : World} {K : St → List Tag → Option R} {r : R} {o : Oper} {Q : Exit → Act → World → Prop}

/-- a slot as a pointer -/
theorem gp_rel (S : SRel σ h st a.tmps w) {s : Nat} {v : SV} (hv : gp st.get s = some v) : VRel σ h v.T v.x (a.tmps.getD s undef) [s] ∧ v.T.okTop = true ∧ ∀ u, v.T.looks = some u → ∃ k r, u = k :: r ∧ Owns st k := by
  unfold gp at hv
  split at hv
  · rename_i e x he
    injection hv with hv
    subst hv
    obtain ⟨_, c, hw, hr⟩ := S.vals s _ he
    simp only [Rel] at hr
    obtain ⟨b, ch, e1, e2, e3⟩ := hr
    refine ⟨⟨c, hw, ?_⟩, rfl, fun u hu => ?_⟩
    · simp only [Rel]; exact ⟨b, ch, by simpa using e1, e2, by simp⟩
    · simp only [Ty.looks, Option.some.injEq] at hu
      exact ⟨s, [], hu.symm, _, he, rfl, by simpa [Ty.okTop] using S.typ s _ he⟩
  · rename_i z e x he
    injection hv with hv
    subst hv
    obtain ⟨_, c, hw, hr⟩ := S.vals s _ he
    have hcl := S.typ s _ he
    simp only [Rel] at hr
    obtain ⟨ad, len, cap, h1, h2, h3, h4⟩ := hr
    refine ⟨⟨c, hw, ?_⟩, by simpa [Ty.okTop, Ty.closed] using hcl, fun u hu => ?_⟩
    · simp only [Rel]
      refine ⟨ad, len, cap, h1, h2, h3, ?_⟩
      rcases h4 with h4 | ⟨b, ch, f1, f2, f3, f4⟩
      · left
        have := h2.1
        omega
      · right
        refine ⟨b, 0, ch, f1, f2, ?_, by simpa using f4.imp fun _ _ k => Rel.pure σ.le_refl (by simpa [Ty.okTop, Ty.closed] using hcl) k⟩
        rw [f3]
        have := Nat.mul_le_mul_right e.size h2.1
        omega
    · simp only [Ty.looks, Option.some.injEq] at hu
      exact ⟨s, [], hu.symm, _, he, rfl, by simpa [Ty.okTop] using hcl⟩
  · exact ⟨(S.vals s v hv).2, S.typ s v hv, fun u hu => S.look s v u hv hu⟩

/-- what a pointer's slot leads to -/
theorem ptr_use {v : Option SV} {K : Nat → Tag → Nat → Nat → Nat → Tag → Int → SV → Ty → Option R} {r : R} (hK : ptrK st.get v K = some r) {val : Value}
    (hv : ∀ u, v = some u → ∃ t, VRel σ h u.T u.x val t) :
    ∃ (s : Nat) (q : Tag) (off str n : Nat) (p : Tag) (i : Int) (r0 : SV) (C : Ty), v = some ⟨.ptr (s :: q) off str n p, i⟩ ∧ K s q off str n p i r0 C = some r ∧ st.get s = some r0 ∧ hasIdx q = false ∧ tyAt r0.T (q ++ [0]) = some C ∧ offAt C p = some (off, str, n) ∧ i.toNat < n ∧
      ∃ b ch, val = .pointer (some ⟨b, off + str * i.toNat, none⟩) ∧ h b = some (.cells ch (s :: q)) := by
  unfold ptrK at hK
  split at hK
  · rename_i s q off str n p i
    split at hK
    · rename_i r0 hr0
      cases hq : hasIdx q with
      | true => rw [hq] at hK; simp at hK
      | false =>
        rw [hq] at hK
        simp only [cond_false] at hK
        split at hK
        · rename_i C hC
          split at hK
          · rename_i o s' n' ho
            generalize hcc : (Nat.beq o off && Nat.beq s' str && Nat.beq n' n) = cc at hK
            cases cc with
            | false => simp at hK
            | true =>
              simp only [Bool.and_eq_true] at hcc
              have e1 := Nat.eq_of_beq_eq_true hcc.1.1
              have e2 := Nat.eq_of_beq_eq_true hcc.1.2
              have e3 := Nat.eq_of_beq_eq_true hcc.2
              subst e1 e2 e3
              obtain ⟨t, c, hw, hr⟩ := hv _ rfl
              simp only [Rel] at hr
              obtain ⟨b, ch, f1, f2, f3⟩ := hr
              simp only [Ty.agg, wr] at hw
              rw [f1] at hw
              injection hw with hw _
              exact ⟨s, q, _, _, _, p, i, r0, C, rfl, hK, hr0, hq, hC, ho, f3, b, ch, hw.symm, f2⟩
          · simp at hK
        · simp at hK
    · simp at hK
  · simp at hK

theorem owns_of_block (S : SRel σ h st a.tmps w) {b : Nat} {blk : Blk} {k : Nat} {q : Tag} (hb : h b = some blk) (ht : blk.tag = k :: q) : Owns st k := by
  obtain ⟨k', r', e, ho⟩ := S.own b blk hb
  rw [ht] at e
  injection e with e _
  rw [e]; exact ho

/-- the root of a place, and the block's content -/
theorem root_use (S : SRel σ h st a.tmps w) {s : Nat} {q : Tag} {r0 : SV} {C : Ty} {b : Nat} {ch : List Value} (hs : st.get s = some r0) (hq : hasIdx q = false) (hC : tyAt r0.T (q ++ [0]) = some C) (hb : h b = some (.cells ch (s :: q))) :
    r0.T.closed = true ∧ r0.T.pure = false ∧ ∃ (cs : List Value) (y : C.den) (f : SV → SV), wr r0.T.agg (a.tmps.getD s undef) cs ∧ C.closed = true ∧ Rel σ h C false y ch (s :: q ++ [0]) ∧
      (∀ (R : Type) (p : Tag) (i : Int) (K : SV → Option R), getK r0.T r0.x ((q ++ [0]) ++ p) i K = getK C y p i K) ∧
      (∀ (R : Type) (p : Tag) (i : Int) (v : SV) (K : SV → Option R), setK r0.T r0.x ((q ++ [0]) ++ p) i v K = setK C y p i v (fun u => K (f ⟨.box u.T, u.x⟩))) ∧
      (∀ (u : SV), (u.T.closed = true → (f ⟨.box u.T, u.x⟩).T.closed = true) ∧ (f ⟨.box u.T, u.x⟩).T.pure = false ∧ (f ⟨.box u.T, u.x⟩).T.agg = r0.T.agg) ∧
      ∀ (u : SV) (ch' : List Value) (σ' : Sg) (h' : Hp), σ.le σ' → (∀ b' blk r, h b' = some blk → blk.tag = s :: r → isPre q r = false → h' b' = some blk) → h' b = some (.cells ch' (s :: q)) → Rel σ' h' u.T false u.x ch' (s :: q ++ [0]) →
        Rel σ' h' (f ⟨.box u.T, u.x⟩).T false (f ⟨.box u.T, u.x⟩).x cs [s] ∧ (f ⟨.box u.T, u.x⟩).T.size = r0.T.size := by
  obtain ⟨v1, hv1, hp, hc⟩ := owns_of_block S hb (q := q) rfl
  rw [hs] at hv1
  injection hv1 with hv1
  subst hv1
  obtain ⟨_, cs, hw, hr⟩ := S.vals s r0 hs
  obtain ⟨y, c, f, e1, e2, e3, e4, e5, e6⟩ := zoom (tyAt_D hC) hq hc hr
  simp only [Rel] at e1
  obtain ⟨b2, ch2, g1, g2, g3⟩ := e1
  have hbb : b2 = b := S.inv.inj _ _ _ _ g2 hb (by simp [Blk.tag])
  subst hbb
  rw [g2] at hb
  injection hb with hb
  injection hb with hb _
  subst hb
  refine ⟨hc, hp, cs, y, f, hw, by simpa [Ty.closed] using e2, g3, fun R p i K => ?_, fun R p i v K => ?_, fun u => ⟨fun hu => (e5 _).1 (by simpa [Ty.closed] using hu), (e5 _).2.1 rfl, (e5 _).2.2 rfl⟩, fun u ch' σ' h' hσ H hb' hk => ?_⟩
  · rw [List.append_assoc, e3]; rfl
  · rw [List.append_assoc, e4]; rfl
  · refine e6 ⟨.box u.T, u.x⟩ σ' h' rfl hσ (fun b' blk r hb2 ht hpre => H b' blk r hb2 (by rw [ht]; rfl) hpre) ?_
    simp only [Rel]
    exact ⟨b2, ch', g1, hb', hk⟩

/-- a look at a place's content -/
theorem lookV_ok {d : Nat} {t : Tag} {v : SV} {K' : St → Option R} (hK : lookV d t v K' = some r) (hcl : v.T.closed = true) {c : List Value} (hr : Rel σ h v.T false v.x c t) (ho : ∃ k q, t = k :: q ∧ Owns st k) :
    ∃ u : SV, K' [(d, some u)] = some r ∧ VRel σ h u.T u.x (pick v.T.agg c) [d] ∧ u.T.okTop = true ∧ ∀ u', u.T.looks = some u' → ∃ k r, u' = k :: r ∧ Owns st k := by
  unfold lookV at hK
  split at hK
  · rename_i z e x
    simp only [Rel] at hr
    obtain ⟨ad, len, cap, h1, h2, h3, h4⟩ := hr
    refine ⟨_, hK, ⟨c, by rw [h1]; rfl, ?_⟩, by simpa [Ty.okTop, Ty.closed] using hcl, fun u' hu => ?_⟩
    · simp only [Rel]
      refine ⟨ad, len, cap, h1, h2, h3, ?_⟩
      rcases h4 with h4 | ⟨b, ch, f1, f2, f3, f4⟩
      · left
        have := h2.1
        omega
      · right
        refine ⟨b, 0, ch, f1, f2, ?_, by simpa using f4.imp fun _ _ k => Rel.pure σ.le_refl (by simpa [Ty.closed] using hcl) k⟩
        rw [f3]
        have := Nat.mul_le_mul_right e.size h2.1
        omega
    · simp only [Ty.looks, Option.some.injEq] at hu
      obtain ⟨k, q, e1, e2⟩ := ho
      exact ⟨k, q, by rw [← hu, e1], e2⟩
  · rename_i e x
    simp only [Rel] at hr
    obtain ⟨b, ch, f1, f2, f3⟩ := hr
    refine ⟨_, hK, ⟨c, by rw [f1]; rfl, ?_⟩, rfl, fun u' hu => ?_⟩
    · simp only [Rel]; exact ⟨b, ch, by simpa using f1, f2, by simp⟩
    · simp only [Ty.looks, Option.some.injEq] at hu
      obtain ⟨k, q, e1, e2⟩ := ho
      exact ⟨k, q, by rw [← hu, e1], e2⟩
  · have hl : v.T.looks = none := by revert hcl; cases v.T <;> simp [Ty.looks, Ty.closed]
    cases hp : v.T.pure with
    | false => rw [hp, hl] at hK; simp at hK
    | true =>
      rw [hp] at hK
      exact ⟨v, hK, VRel.pure σ.le_refl hp (VRel.of_rel hr), pure_okTop hp, by rw [hl]; simp⟩

theorem exec_load {t : TypeId} {x : Operand} (hop : o.op = .load t x) {b off : Nat} (hx : a.eval x = .pointer (some ⟨b, off, none⟩)) {d : TypeDesc} {j : TypeInfo} {c : List Value} (hu : P.underlying t = some d) (hi : P.info? t = some j)
    (hc : ∀ k v, c[k]? = some v → w.cell? ⟨b, off + k, none⟩ = some v) (hs : c.length = j.size) (h1 : descAgg d = true ∨ c.length = 1) : (execOp a.eval o).run P w = .ok (.value (pick (descAgg d) c)) w := by
  unfold execOp
  rw [hop]
  simp [Instr.loadAt, Instr.sureAddr, hx, load_run hu hi hc hs h1]
end
end Go.Proofs.Bw
namespace Go.Proofs.Bw
open Go

theorem nat_beq_false {a b : Nat} (h : a ≠ b) : Nat.beq a b = false := by
  cases e : Nat.beq a b with
  | false => rfl
  | true => exact (h (Nat.eq_of_beq_eq_true e)).elim
theorem closed_looks {T : Ty} (h : T.closed = true) : T.looks = none := by revert h; cases T <;> simp [Ty.looks, Ty.closed]
theorem closed_okTop {T : Ty} (h : T.closed = true) : T.okTop = true := by revert h; cases T <;> simp [Ty.okTop, Ty.closed]

/-- a root's value is another now, and a fresh slot is written -/
theorem SRel.root {σ σ' : Sg} {h h' : Hp} {st : St} {tm : Array Value} {w w' : World} (S : SRel σ h st tm w) {d s : Nat} {v u : SV} {val : Value} {ks : List Tag} (hd : fresh st.get d = true) (hds : d ≠ s) (hsz : d < tm.size)
    (hs : Owns st s) (huc : u.T.closed = true) (hup : u.T.pure = false) (hσ : σ.le σ') (I : Inv w' σ' h')
    (ha : ∀ b blk k q, h b = some blk → blk.tag = k :: q → k ≠ s → h' b = some blk)
    (hb : ∀ b blk, h' b = some blk → h b = some blk ∨ (∃ q, blk.tag = s :: q) ∨ ∃ q, blk.tag = d :: q ∧ v.T.pure = false ∧ v.T.closed = true)
    (hv : VRel σ' h' v.T v.x val [d]) (hok : v.T.okTop = true) (hl : ∀ t, v.T.looks = some t → ∃ k r, t = k :: r ∧ Owns st k)
    (hu : VRel σ' h' u.T u.x (tm.getD s undef) [s])
    (he : ∀ s' v' q, st.get s' = some v' → v'.T.looks = some (s :: q) → deadV ks v' = false → Stays h h' (s :: q)) :
    SStep h st tm [(d, some v), (s, some u)] ks σ' h' (tm.setIfInBounds d val) w' := by
  have hno := not_owns_of_fresh hd
  have hus : hasS [(d, some v), (s, some u)] = fun k => Nat.beq d k || (Nat.beq s k || false) := rfl
  have gd : St.get [(d, some v), (s, some u)] d = some v := by rw [get_cons, if_pos rfl]
  have gs : St.get [(d, some v), (s, some u)] s = some u := by rw [get_cons, if_neg hds, get_cons, if_pos rfl]
  have own' : ∀ k, Owns st k → Owns (st.upd [(d, some v), (s, some u)] ks) k := by
    rintro k ⟨x, h1, h2, h3⟩
    by_cases e1 : d = k
    · exact (hno (by rw [e1]; exact ⟨x, h1, h2, h3⟩)).elim
    · by_cases e2 : s = k
      · refine ⟨u, ?_, hup, huc⟩
        rw [get_upd, if_pos (by rw [hus]; simp [e2]), ← e2, gs]
      · refine ⟨x, ?_, h2, h3⟩
        rw [get_upd, if_neg (by rw [hus]; simp [nat_beq_false e1, nat_beq_false e2]), h1]
        have : deadV ks x = false := by unfold deadV; rw [closed_looks h3]
        simp [this]
  refine SRel.upd S _ ks hσ I ?_ ?_ ?_ ⟨by simp, fun k hk => ?_⟩ ?_
  · intro b blk k q hbk ht hk
    rw [hus] at hk
    simp only [Bool.or_false, Bool.or_eq_false_iff] at hk
    exact ha b blk k q hbk ht (fun e => by rw [e] at hk; simp at hk)
  · intro b blk hbk
    rcases hb b blk hbk with h1 | ⟨q, h1⟩ | ⟨q, h1, h2, h3⟩
    · obtain ⟨k, q, e, ho⟩ := S.own b blk h1
      exact ⟨k, q, e, fun _ => own' k ho, fun _ => h1⟩
    · exact ⟨s, q, h1, fun _ => own' s hs, fun hk => by rw [hus] at hk; simp at hk⟩
    · refine ⟨d, q, h1, fun _ => ⟨v, ?_, h2, h3⟩, fun hk => by rw [hus] at hk; simp at hk⟩
      rw [get_upd, if_pos (by rw [hus]; simp), gd]
  · intro k x hk hx
    by_cases e1 : d = k
    · subst e1
      rw [gd] at hx
      injection hx with hx
      subst hx
      rw [getD_set, if_pos ⟨rfl, hsz⟩]
      exact ⟨by simpa using hsz, hv, hok, fun t ht => let ⟨k, r, e, ho⟩ := hl t ht; ⟨k, r, e, own' k ho⟩⟩
    · rw [get_cons, if_neg e1, get_cons] at hx
      by_cases e2 : s = k
      · rw [if_pos e2] at hx
        injection hx with hx
        subst hx
        subst e2
        rw [getD_set, if_neg (fun h => e1 h.1)]
        obtain ⟨y, hy, _, _⟩ := hs
        exact ⟨by simpa using (S.vals s y hy).1, hu, closed_okTop huc, by rw [closed_looks huc]; simp⟩
      · rw [if_neg e2] at hx; simp [St.get] at hx
  · rw [hus] at hk
    simp only [Bool.or_false, Bool.or_eq_false_iff] at hk
    rw [getD_set, if_neg (fun h => by rw [h.1] at hk; simp at hk)]
  · intro s' v' k q hs' hns hlk hk hdead
    rw [hus] at hk
    simp only [Bool.or_false, Bool.or_eq_true] at hk
    rcases hk with hk | hk
    · have := beq_iff.1 hk
      obtain ⟨k', r', e, ho⟩ := S.look s' v' _ hs' hlk
      injection e with e _
      exact (hno (by rw [this, e]; exact ho)).elim
    · have := beq_iff.1 hk
      subst this
      exact ⟨he s' v' q hs' hlk hdead, own' s hs⟩

section
variable {P : Program} {R : Type} {σ : Sg} {h : Hp} {st : St} {a : Act} {w : World} {K : St → List Tag → Option R} {r : R} {o : Oper} {Q : Exit → Act → World → Prop} {tab : Tab}

theorem Stays.rfl' (h : Hp) (u : Tag) : Stays h h u := ⟨fun _ cs hb => ⟨cs, hb⟩, fun _ _ hb => hb, fun _ _ hb => hb, fun hn => hn⟩

theorem putR_some {g : Nat → Option SV} {d s : Nat} {v u : SV} {ks : List Tag} (hK : putR g d s v u ks K = some r) : fresh g d = true ∧ d ≠ s ∧ K [(d, some v), (s, some u)] ks = some r := by
  unfold putR at hK
  generalize hcc : (fresh g d && !Nat.beq d s) = cc at hK
  cases cc with
  | false => simp at hK
  | true =>
    simp only [Bool.and_eq_true, Bool.not_eq_true'] at hcc
    exact ⟨hcc.1, fun e => by rw [e] at hcc; simp at hcc, hK⟩

/-- a pointer that may be nil is looked at: nothing in memory turns, what is known does -/
theorem wp_refine (S : SRel σ h st a.tmps w) {d s : Nat} {v u : SV} (hd : dstOk a.tmps.size o d = true) (hK : putR st.get d s v u [] K = some r) {val : Value}
    (hrun : (execOp a.eval o).run P w = .ok (.value val) w) (hs : Owns st s) (huc : u.T.closed = true) (hup : u.T.pure = false) (hv : VRel σ h v.T v.x val [d]) (hok : v.T.okTop = true)
    (hl : ∀ t, v.T.looks = some t → ∃ k r, t = k :: r ∧ Owns st k) (hu : VRel σ h u.T u.x (a.tmps.getD s undef) [s]) : o.wp P a w (Post σ h w st K r a) Q := by
  obtain ⟨hf, hds, hk⟩ := putR_some hK
  obtain ⟨h1, h2⟩ := dstOk_eq hd
  unfold Oper.wp
  rw [hrun, Oper.upon_value, h1]
  refine ⟨σ, h, _, _, hk, Ext.refl w σ h, ?_, rfl, by simp [Act.put]⟩
  exact S.root hf hds h2 hs huc hup σ.le_refl S.inv (fun _ _ _ _ hb _ _ => hb) (fun _ _ hb => .inl hb) hv hok hl hu (fun _ _ _ _ _ _ => Stays.rfl' h _)

theorem op_bor {d s : Nat} {x : Operand} (S : SRel σ h st a.tmps w) (hop : o.op = .move x ∨ o.op = .assign x) (hd : dstOk a.tmps.size o d = true) (hx : opdOk (.t s) x = true)
    (hK : evOp st.get K (.bor d s) = some r) : o.wp P a w (Post σ h w st K r a) Q := by
  have hex : (execOp a.eval o).run P w = .ok (.value (a.tmps.getD s undef)) w := by
    have e : a.eval x = a.tmps.getD s undef := by
      cases x with
      | tmp k => have := Nat.eq_of_beq_eq_true hx; subst this; rfl
      | _ => simp [opdOk] at hx
    unfold execOp
    rcases hop with h1 | h1 <;> rw [h1, ← e] <;> rfl
  simp only [evOp] at hK
  split at hK
  · rename_i e x hv
    obtain ⟨_, c, hw, hr⟩ := S.vals s _ hv
    have hcl : (Ty.opt e).closed = true := by simpa [Ty.okTop] using S.typ s _ hv
    cases x with
    | none =>
      simp only [optM] at hK
      refine wp_put_pure (v := ⟨.nil 1, ()⟩) (t := [s]) S hd hK hex rfl rfl rfl rfl rfl ⟨c, hw, ?_⟩
      simp only [Rel] at hr ⊢
      exact hr
    | some y =>
      simp only [optM] at hK
      simp only [Rel] at hr
      obtain ⟨b, ch, f1, f2, f3⟩ := hr
      refine wp_refine S hd hK hex ⟨_, hv, rfl, hcl⟩ (by simpa [Ty.closed] using hcl) rfl ⟨c, hw, ?_⟩ rfl (fun t ht => ?_) ⟨c, hw, ?_⟩
      · simp only [Rel]; exact ⟨b, ch, by simpa using f1, f2, by simp⟩
      · simp only [Ty.looks, Option.some.injEq] at ht; exact ⟨s, [], ht.symm, _, hv, rfl, hcl⟩
      · simp only [Rel]; exact ⟨b, ch, f1, f2, f3⟩
  · rename_i v hno hv
    cases hf : fresh st.get d with
    | false => rw [hf] at hK; simp at hK
    | true =>
      rw [hf] at hK
      simp only [cond_true] at hK
      obtain ⟨_, hvr⟩ := S.vals s v hv
      have hok := S.typ s v hv
      by_cases hcl : v.T.closed = true
      · by_cases hp : v.T.pure = true
        · obtain ⟨c, hw, hr⟩ := hvr
          have hl : v.T.looks = none := closed_looks hcl
          have : lookV d [s] v (fun us => K us []) = K [(d, some v)] [] := by
            unfold lookV
            split
            · simp [Ty.pure] at hp
            · simp [Ty.pure] at hp
            · rw [hp]; simp
          rw [this] at hK
          exact wp_put_pure (v := v) S hd (by simp only [Bw.put, hf, cond_true]; exact hK) hex rfl rfl rfl rfl hp ⟨c, hw, hr⟩
        · obtain ⟨c, hw, hr⟩ := hvr
          have hown : Owns st s := ⟨v, hv, by simpa using hp, hcl⟩
          obtain ⟨u, k1, k2, k3, k4⟩ := lookV_ok hK hcl hr ⟨s, [], rfl, hown⟩
          have hval : pick v.T.agg c = a.tmps.getD s undef := by
            cases hg : v.T.agg with
            | true => rw [hg] at hw; exact hw.symm
            | false => rw [hg] at hw; rw [show c = _ from hw]; rfl
          rw [hval] at k2
          exact wp_put S hd (by simp only [Bw.put, hf, cond_true]; exact k1) hex rfl rfl rfl rfl k2 k3 k4
      · have hlk : ∃ u, v.T.looks = some u := by
          revert hok hcl
          cases v.T <;> simp [Ty.okTop, Ty.looks, Ty.closed]
        obtain ⟨u0, hu0⟩ := hlk
        have : lookV d [s] v (fun us => K us []) = K [(d, some v)] [] := by
          unfold lookV
          split
          · simp [Ty.looks] at hu0
          · simp [Ty.looks] at hu0
          · rw [hu0]; simp
        rw [this] at hK
        refine wp_put (v := v) S hd (by simp only [Bw.put, hf, cond_true]; exact hK) hex rfl rfl rfl rfl ?_ hok (fun t ht => S.look s v t hv ht)
        obtain ⟨c, hw, hr⟩ := hvr
        refine ⟨c, hw, ?_⟩
        revert hr hcl hok
        cases hvT : v with
        | mk T x =>
        cases T <;> simp only [Ty.okTop, Ty.closed, Rel] <;> intro hok hcl hr <;> first | exact hr | (simp at hcl; done) | skip
        all_goals (first | (exact (hcl hok).elim) | skip)
        · obtain ⟨ad, len, cap, h1, h2, h3, h4⟩ := hr
          refine ⟨ad, len, cap, h1, h2, h3, h4.imp id ?_⟩
          rintro ⟨b, off, ch, e1, e2, e3, e4⟩
          exact ⟨b, off, ch, e1, e2, e3, e4.imp fun _ _ k => Rel.pure σ.le_refl hok k⟩
        · obtain ⟨b, off, ch, e1, e2, e3, e4⟩ := hr
          exact ⟨b, off, ch, e1, e2, e3, Rel.pure σ.le_refl hok e4⟩
        · obtain ⟨ad, len, cap, h1, h2, h3, h4⟩ := hr
          refine ⟨ad, len, cap, h1, h2, h3, h4.imp id ?_⟩
          rintro ⟨b, ch, e1, e2, e3, e4⟩
          exact ⟨b, ch, e1, e2, e3, e4.imp fun _ _ k => Rel.pure σ.le_refl hok k⟩
  · simp at hK
end
end Go.Proofs.Bw
namespace Go.Proofs.Bw
open Go

theorem bif_some {R : Type} {c : Bool} {x : Option R} {r : R} (h : (bif c then x else none) = some r) : c = true ∧ x = some r := by
  cases c with
  | true => exact ⟨rfl, h⟩
  | false => simp at h
theorem bif_none {R : Type} {c : Bool} {x : Option R} {r : R} (h : (bif c then none else x) = some r) : c = false ∧ x = some r := by
  cases c with
  | false => exact ⟨rfl, h⟩
  | true => simp at h

section
variable {P : Program} {R : Type} {σ : Sg} {h : Hp} {st : St} {a : Act} {w : World} {K : St → List Tag → Option R} {r : R} {o : Oper} {Q : Exit → Act → World → Prop} {tab : Tab}

theorem opdT_eval {s : Nat} {x : Operand} (hx : opdOk (.t s) x = true) : a.eval x = a.tmps.getD s undef := by
  cases x with
  | tmp k => have := Nat.eq_of_beq_eq_true hx; subst this; rfl
  | _ => simp [opdOk] at hx
theorem one_of {T : Ty} {x : T.den} {c : List Value} {t : Tag} {d : TypeDesc} (hr : Rel σ h T false x c t) (hg : descAgg d = T.agg) : descAgg d = true ∨ c.length = 1 := by
  rw [hg]
  cases e : T.agg with
  | true => exact .inl rfl
  | false => exact .inr (by rw [hr.length, size_nonagg e])
theorem slot_single {T : Ty} (hg : T.agg = false) {c : List Value} {v : Value} (hw : wr T.agg v c) : c = [v] := by rw [hg] at hw; exact hw

theorem op_ld {d s sz : Nat} {ag : Bool} {t : TypeId} {x : Operand} (ht : TabOk P tab) (S : SRel σ h st a.tmps w) (hop : o.op = .load t x) (hd : dstOk a.tmps.size o d = true) (hx : opdOk (.t s) x = true) (hsz : tabSz tab t sz ag = true)
    (hK : evOp st.get K (.ld d s sz ag) = some r) : o.wp P a w (Post σ h w st K r a) Q := by
  obtain ⟨dd, j, hu, hi, hj, hdg⟩ := tabSz_ok ht hsz
  have hev := opdT_eval (a := a) hx
  simp only [evOp] at hK
  split at hK
  · rename_i e y hv
    obtain ⟨hc, hk⟩ := bif_some hK
    simp only [Bool.and_eq_true] at hc
    have hs1 := Nat.eq_of_beq_eq_true hc.1.2
    have hs2 := bbeq_eq hc.2
    obtain ⟨⟨c, hw, hr⟩, _⟩ := gp_rel S hv
    simp only [Rel] at hr
    obtain ⟨b, off, e1, c', e2, e3⟩ := hr
    have hval : a.tmps.getD s undef = .pointer (some ⟨b, off, none⟩) := by
      have := slot_single rfl hw; rw [this] at e1; injection e1
    have hdg' : descAgg dd = e.agg := by rw [hdg, hs2]
    have hex := exec_load (P := P) hop (hev.trans hval) hu hi (fun k v hk => S.inv.sta _ _ _ (e3 k v hk)) (by rw [e2.length, hj, hs1]) (one_of e2 hdg')
    rw [hdg'] at hex
    exact wp_put_pure (v := ⟨e, y⟩) S hd hk hex rfl rfl rfl rfl hc.1.1 (VRel.of_rel e2)
  · rename_i u e y hv
    obtain ⟨hc, hk⟩ := bif_some hK
    simp only [Bool.and_eq_true] at hc
    have hs1 := Nat.eq_of_beq_eq_true hc.1.2
    have hs2 := bbeq_eq hc.2
    obtain ⟨⟨c, hw, hr⟩, _⟩ := gp_rel S hv
    simp only [Rel] at hr
    obtain ⟨b, off, ch, e1, e2, e3, e4⟩ := hr
    have hval : a.tmps.getD s undef = .pointer (some ⟨b, off, none⟩) := by
      have := slot_single rfl hw; rw [this] at e1; injection e1
    have hdg' : descAgg dd = e.agg := by rw [hdg, hs2]
    have hex := exec_load (P := P) (c := (ch.drop off).take e.size) hop (hev.trans hval) hu hi (fun k v hk => by
      rw [cell_at S.inv e2 rfl]
      rw [List.getElem?_take] at hk
      split at hk
      · rw [List.getElem?_drop] at hk; exact hk
      · simp at hk) (by rw [e4.length, hj, hs1]) (one_of e4 hdg')
    rw [hdg'] at hex
    exact wp_put_pure (v := ⟨e, y⟩) S hd hk hex rfl rfl rfl rfl hc.1.1 (VRel.of_rel e4)
  · rename_i v hno1 hno2
    obtain ⟨s0, q, off, str, n, p, i, r0, C, hv, hK, hr0, hq, hC, ho, hin, b, ch, hval, hb⟩ := ptr_use hK (val := a.tmps.getD s undef) (fun u hu => ⟨_, (gp_rel S hu).1⟩)
    obtain ⟨hf, hK⟩ := bif_some hK
    obtain ⟨hrc, hrp, cs, y, f, hwr, hCc, hCr, hget, hset, hfc, hfr⟩ := root_use S hr0 hq hC hb
    rw [hget] at hK
    obtain ⟨v', pre, c, post, k1, k2, k3, k4, k5⟩ := getIn hK hCr ho
    obtain ⟨hc, hK⟩ := bif_some k1
    simp only [Bool.and_eq_true] at hc
    have hs1 := Nat.eq_of_beq_eq_true hc.1
    have hs2 := bbeq_eq hc.2
    have hdg' : descAgg dd = v'.T.agg := by rw [hdg, hs2]
    have hex := exec_load (P := P) (c := c) hop (hev.trans hval) hu hi (fun k v hk => by
      rw [cell_at S.inv hb rfl, k2, ← k3, List.append_assoc, List.getElem?_append_right (by omega), List.getElem?_append_left (by
        have := (List.getElem?_eq_some_iff.1 hk).1; omega)]
      rw [show pre.length + k - pre.length = k by omega]; exact hk) (by rw [k4.length, hj, hs1]) (one_of k4 hdg')
    rw [hdg'] at hex
    have hown : Owns st s0 := ⟨r0, hr0, hrp, hrc⟩
    have hcl := k5 hCc
    split at hK
    · rename_i e z
      simp only [Ty.agg, pick, cond_false] at hex
      cases z with
      | none =>
        simp only [optM] at hK
        simp only [Rel] at k4
        rw [k4] at hex
        refine wp_put_pure (v := ⟨.nil 1, ()⟩) (t := []) S hd hK hex rfl rfl rfl rfl rfl ⟨[.pointer none], rfl, ?_⟩
        simp only [Rel, nilVal]
      | some z =>
        simp only [optM] at hK
        obtain ⟨hpi, hK⟩ := bif_none hK
        rw [hset] at hK
        simp only [Rel] at k4
        obtain ⟨b2, ch2, g1, g2, g3⟩ := k4
        obtain ⟨w2, pre2, c2, post2, m1, m2, m3, m4, m5, mc, m6⟩ := setIn hK hCc hCr ho (fun hh => by rw [hpi] at hh; cases hh)
        have hpp : pre2 = pre ∧ c2 = c ∧ post2 = post := by
          have h1 := m2.symm.trans k2
          have hl : pre2.length = pre.length := by rw [m3, k3]
          rw [List.append_assoc, List.append_assoc] at h1
          obtain ⟨e1, e2⟩ := List.append_inj h1 hl
          obtain ⟨e2, e3⟩ := List.append_inj e2 (by rw [m4, g1]; rfl)
          exact ⟨e1, e2, e3⟩
        obtain ⟨rfl, rfl, rfl⟩ := hpp
        have m7 := m6 σ h c2 σ.le_refl (fun _ _ _ hb _ _ => hb) (by simp only [Rel]; exact ⟨b2, ch2, g1, g2, g3⟩)
        rw [← m2] at m7
        obtain ⟨n1, n2⟩ := hfr w2 ch σ h σ.le_refl (fun _ _ _ hb _ _ => hb) hb m7
        have hw2c : w2.T.closed = true := mc (by simpa [Ty.closed] using hcl)
        refine wp_refine S hd m1 (val := .pointer (some ⟨b2, 0, none⟩)) (by rw [hex, g1]; rfl) hown ((hfc w2).1 hw2c) (hfc w2).2.1 ⟨[.pointer (some ⟨b2, 0, none⟩)], rfl, ?_⟩ rfl (fun t ht => ?_) ⟨cs, by rw [(hfc w2).2.2]; exact hwr, n1⟩
        · simp only [Rel]; exact ⟨b2, ch2, by simp, by simpa using g2, by simp⟩
        · simp only [Ty.looks, Option.some.injEq] at ht
          exact ⟨s0, _, ht.symm, hown⟩
    · obtain ⟨u, k1', k2', k3', k4'⟩ := lookV_ok hK hcl (by simpa using k4) ⟨s0, _, rfl, hown⟩
      exact wp_put S hd (by simp only [Bw.put, hf, cond_true]; exact k1') hex rfl rfl rfl rfl k2' k3' k4'
end
end Go.Proofs.Bw
namespace Go.Proofs.Bw
open Go

section
variable {P : Program} {R : Type} {σ : Sg} {h : Hp} {st : St} {a : Act} {w : World} {K : St → List Tag → Option R} {r : R} {o : Oper} {Q : Exit → Act → World → Prop} {tab : Tab}

/-! fields -/
theorem fieldV_rel : ∀ {T : Ty} {x : T.den} {n : Nat} {v : SV} {off : Nat} {U : Ty} {p : Tag} {cs : List Value} {t : Tag}, fieldV T x n = some v → fieldAt T n = some (off, U, p) → Rel σ h T false x cs t →
    v.T = U ∧ ∃ pre c post, cs = pre ++ c ++ post ∧ pre.length = off ∧ Rel σ h v.T false v.x c (t ++ p) := by
  intro T
  induction T with
  | pair A B _ ihb =>
    intro x n v off U p cs t hf ha hr
    simp only [Rel] at hr
    obtain ⟨c, d, rfl, h1, h2⟩ := hr
    cases n with
    | zero =>
      simp only [fieldV, Option.some.injEq] at hf
      simp only [fieldAt, Option.some.injEq, Prod.mk.injEq] at ha
      obtain ⟨rfl, rfl, rfl⟩ := ha
      subst hf
      exact ⟨rfl, [], c, d, by simp, rfl, h1⟩
    | succ n =>
      simp only [fieldV] at hf
      simp only [fieldAt] at ha
      split at ha
      · rename_i o' T' p' hfa
        simp only [Option.some.injEq, Prod.mk.injEq] at ha
        obtain ⟨rfl, rfl, rfl⟩ := ha
        obtain ⟨e0, pre, c', post, e1, e2, e3⟩ := ihb hf hfa h2
        exact ⟨e0, c ++ pre, c', post, by rw [e1]; simp, by rw [List.length_append, h1.length, e2], by simpa using e3⟩
      · simp at ha
  | _ => intro x n v off U p cs t hf; simp [fieldV] at hf
theorem fieldV_pure : ∀ {T : Ty} {x : T.den} {n : Nat} {v : SV}, fieldV T x n = some v → T.pure = true → v.T.pure = true := by
  intro T
  induction T with
  | pair A B _ ihb =>
    intro x n v hf hp
    simp only [Ty.pure, Bool.and_eq_true] at hp
    cases n with
    | zero => simp only [fieldV, Option.some.injEq] at hf; subst hf; exact hp.1
    | succ n => simp only [fieldV] at hf; exact ihb hf hp.2
  | _ => intro x n v hf; simp [fieldV] at hf

/-- field f of struct type s, as the table has it: its offset; its type's size -/
def tabFld (tab : Tab) (s f : Nat) : Option (Nat × Nat) :=
  match tab.get s with
  | some i => (match descFs i.desc with
    | some l => (match l[f]? with
      | some fl => (match tab.get fl.type with
        | some _ => some (fl.offset, fl.type)
        | none => none)
      | none => none)
    | none => none)
  | none => none
theorem tabFld_ok (ht : TabOk P tab) {s f off t : Nat} (hf : tabFld tab s f = some (off, t)) : ∃ l fl j, P.underlying s = some (.struct ⟨l⟩) ∧ l[f]? = some fl ∧ fl.offset = off ∧ fl.type = t ∧ tab.get t = some j := by
  unfold tabFld at hf
  split at hf
  · rename_i i hi
    split at hf
    · rename_i l hl
      split at hf
      · rename_i fl hfl
        split at hf
        · rename_i j hj
          simp only [Option.some.injEq, Prod.mk.injEq] at hf
          obtain ⟨rfl, rfl⟩ := hf
          exact ⟨l, fl, j, by rw [(ht s i hi).1, descFs_eq hl], hfl, rfl, rfl, hj⟩
        · simp at hf
      · simp at hf
    · simp at hf
  · simp at hf
def faOk (tab : Tab) (s f off : Nat) : Bool :=
  match tabFld tab s f with
  | some (o, t) => Nat.beq o off && (match tab.get t with | some j => !Nat.beq j.size 0 | none => false)
  | none => false

theorem exec_fa {s f off : Nat} {x : Operand} (ht : TabOk P tab) (hop : o.op = .fieldAddr s x f) (hfa : faOk tab s f off = true) {b k : Nat} (hx : a.eval x = .pointer (some ⟨b, k, none⟩)) :
    (execOp a.eval o).run P w = .ok (.value (.pointer (some ⟨b, k + off, none⟩))) w := by
  unfold faOk at hfa
  split at hfa
  · rename_i o' t hf
    simp only [Bool.and_eq_true] at hfa
    have := Nat.eq_of_beq_eq_true hfa.1
    subst this
    obtain ⟨l, fl, j, e1, e2, e3, e4, e5⟩ := tabFld_ok ht hf
    obtain ⟨_, j', f2, f3, _⟩ := ht t j e5
    have hne : ¬ j'.size = 0 := by
      have := hfa.2
      rw [e5] at this
      simp only [Bool.not_eq_true'] at this
      intro e
      rw [← f3, e] at this
      simp at this
    unfold execOp
    rw [hop]
    have he2 : (⟨l⟩ : Array Field)[f]? = some fl := by simpa using e2
    simp [Instr.fieldAt, run_underlying e1, he2, hx, Instr.sureAddr, fieldPlace, sizeOf, typeInfo, e4, f2, hne, addr_add, e3]
  · simp at hfa

theorem op_fa {d s n off : Nat} {t : TypeId} {x : Operand} (ht : TabOk P tab) (S : SRel σ h st a.tmps w) (hop : o.op = .fieldAddr t x n) (hd : dstOk a.tmps.size o d = true) (hx : opdOk (.t s) x = true) (hfa : faOk tab t n off = true)
    (hK : evOp st.get K (.fa d s n off) = some r) : o.wp P a w (Post σ h w st K r a) Q := by
  have hev := opdT_eval (a := a) hx
  simp only [evOp] at hK
  split at hK
  · rename_i e y hv
    obtain ⟨⟨c, hw, hr⟩, hok, _⟩ := gp_rel S hv
    split at hK
    · rename_i v o' pr hfv hfat
      obtain ⟨T', p'⟩ := pr
      obtain ⟨hc, hk⟩ := bif_some hK
      have := Nat.eq_of_beq_eq_true hc
      subst this
      simp only [Rel] at hr
      obtain ⟨b, k, e1, c', e2, e3⟩ := hr
      have hval : a.tmps.getD s undef = .pointer (some ⟨b, k, none⟩) := by
        have := slot_single rfl hw; rw [this] at e1; injection e1
      have hpe : e.pure = true := by simpa [Ty.okTop, Ty.closed] using hok
      obtain ⟨e0, pre, cc, post, f1, f2, f3⟩ := fieldV_rel hfv hfat e2
      refine wp_put_pure (v := ⟨.cref v.T, v.x⟩) S hd hk (exec_fa ht hop hfa (hev.trans hval)) rfl rfl rfl rfl (show (Ty.cref v.T).pure = true from fieldV_pure hfv hpe) (t := []) ⟨[.pointer (some ⟨b, k + o', none⟩)], rfl, ?_⟩
      simp only [Rel]
      refine ⟨b, k + o', rfl, cc, Rel.pure σ.le_refl (fieldV_pure hfv hpe) f3, fun j u hj => ?_⟩
      rw [Nat.add_assoc]
      refine e3 _ _ ?_
      rw [f1, List.append_assoc, List.getElem?_append_right (by omega), List.getElem?_append_left (by
        have := (List.getElem?_eq_some_iff.1 hj).1; omega)]
      rw [show o' + j - pre.length = j by omega]; exact hj
    · simp at hK
  · rename_i u e y hv
    obtain ⟨⟨c, hw, hr⟩, hok, hlk⟩ := gp_rel S hv
    split at hK
    · rename_i v o' pr hfv hfat
      obtain ⟨T', p'⟩ := pr
      obtain ⟨hc, hk⟩ := bif_some hK
      have := Nat.eq_of_beq_eq_true hc
      subst this
      simp only [Rel] at hr
      obtain ⟨b, k, ch, e1, e2, e3, e4⟩ := hr
      have hval : a.tmps.getD s undef = .pointer (some ⟨b, k, none⟩) := by
        have := slot_single rfl hw; rw [this] at e1; injection e1
      have hpe : e.pure = true := by simpa [Ty.okTop] using hok
      obtain ⟨e0, pre, cc, post, f1, f2, f3⟩ := fieldV_rel hfv hfat e4
      have hlen : ((ch.drop k).take e.size).length = e.size := e4.length
      have hcc : (ch.drop (k + o')).take v.T.size = cc := by
        have h1 : ((ch.drop k).take e.size).drop o' = cc ++ post := by rw [f1, ← f2, List.append_assoc, List.drop_left]
        have h2 : (((ch.drop k).take e.size).drop o').take v.T.size = cc := by rw [h1, ← f3.length, List.take_left]
        rw [← h2, List.drop_take, List.take_take, List.drop_drop]
        congr 1
        have : o' + v.T.size ≤ e.size := by
          have : e.size = (pre ++ cc ++ post).length := by rw [← f1, hlen]
          simp only [List.length_append] at this
          rw [f3.length] at this
          omega
        omega
      refine wp_put (v := ⟨.vref u v.T, v.x⟩) S hd hk (exec_fa ht hop hfa (hev.trans hval)) rfl rfl rfl rfl ⟨[.pointer (some ⟨b, k + o', none⟩)], rfl, ?_⟩ (by simpa [Ty.okTop] using fieldV_pure hfv hpe) (fun t ht => hlk t ht)
      simp only [Rel]
      refine ⟨b, k + o', ch, rfl, e2, ?_, by rw [hcc]; exact Rel.pure σ.le_refl (fieldV_pure hfv hpe) f3⟩
      have : e.size = (pre ++ cc ++ post).length := by rw [← f1, hlen]
      simp only [List.length_append] at this
      rw [f3.length] at this
      omega
    · simp at hK
  · rename_i u e oo pp i hv
    obtain ⟨⟨c, hw, hr⟩, hok, hlk⟩ := gp_rel S hv
    split at hK
    · split at hK
      · rename_i o2 T2 qq hfat
        obtain ⟨hc, hk⟩ := bif_some hK
        simp only [Bool.and_eq_true] at hc
        have := Nat.eq_of_beq_eq_true hc.1.1
        subst this
        simp only [Rel] at hr
        obtain ⟨b, ch, e1, e2, e3⟩ := hr
        have hval : a.tmps.getD s undef = .pointer (some ⟨b, Int.toNat i * e.size + oo, none⟩) := by
          have := slot_single rfl hw; rw [this] at e1; injection e1
        refine wp_put (v := ⟨.eref u e (oo + o2) (pp ++ qq), i⟩) S hd hk (exec_fa ht hop hfa (hev.trans hval)) rfl rfl rfl rfl ⟨[.pointer (some ⟨b, Int.toNat i * e.size + oo + o2, none⟩)], rfl, ?_⟩ rfl (fun t ht => hlk t ht)
        simp only [Rel]
        exact ⟨b, ch, by rw [Nat.add_assoc], e2, e3⟩
      · simp at hK
    · simp at hK
  · rename_i v hno0 hno1 hno2
    obtain ⟨s0, q, po, str, m, p, i, r0, C, hv, hK, hr0, hq, hC, ho, hin, b, ch, hval, hb⟩ := ptr_use hK (val := a.tmps.getD s undef) (fun u hu => ⟨_, (gp_rel S hu).1⟩)
    obtain ⟨_, _, hlk⟩ := gp_rel S hv
    split at hK
    · split at hK
      · rename_i o' T' qq hfat
        obtain ⟨hc, hk⟩ := bif_some hK
        have := Nat.eq_of_beq_eq_true hc
        subst this
        refine wp_put (v := ⟨.ptr (s0 :: q) (po + o') str m (p ++ qq), i⟩) S hd hk (exec_fa ht hop hfa (hev.trans hval)) rfl rfl rfl rfl ⟨_, rfl, ?_⟩ rfl (fun t ht => hlk t ht)
        simp only [Rel]
        exact ⟨b, ch, by rw [show po + str * i.toNat + o' = po + o' + str * i.toNat by omega], hb, hin⟩
      · simp at hK
    · simp at hK
end
end Go.Proofs.Bw
namespace Go.Proofs.Bw
open Go

section
variable {P : Program} {R : Type} {σ : Sg} {h : Hp} {st : St} {a : Act} {w : World} {K : St → List Tag → Option R} {r : R} {o : Oper} {Q : Exit → Act → World → Prop} {tab : Tab}

theorem fieldV_agg {T : Ty} {x : T.den} {n : Nat} {v : SV} (hf : fieldV T x n = some v) : T.agg = true := by
  cases T <;> first | rfl | (simp [fieldV] at hf)

/-- field f of struct type s: its offset, its type's size and kind -/
def fldOk (tab : Tab) (s f off sz : Nat) (ag : Bool) : Bool :=
  match tabFld tab s f with
  | some (o, t) => Nat.beq o off && tabSz tab t sz ag
  | none => false
theorem op_fld {d n off sz : Nat} {ag : Bool} {b : Opd} {t : TypeId} {x : Operand} (ht : TabOk P tab) (S : SRel σ h st a.tmps w) (hop : o.op = .field t x n) (hd : dstOk a.tmps.size o d = true) (hx : opdOk b x = true) (hfl : fldOk tab t n off sz ag = true)
    (hK : evOp st.get K (.fld d b n off sz ag) = some r) : o.wp P a w (Post σ h w st K r a) Q := by
  simp only [evOp] at hK
  split at hK
  · rename_i v hv
    obtain ⟨hp, hK⟩ := bif_some hK
    split at hK
    · rename_i u o' pr hfv hfat
      obtain ⟨T', p'⟩ := pr
      obtain ⟨hc, hk⟩ := bif_some hK
      simp only [Bool.and_eq_true] at hc
      have e1 := Nat.eq_of_beq_eq_true hc.1.1
      have e2 := Nat.eq_of_beq_eq_true hc.1.2
      have e3 := bbeq_eq hc.2
      subst e1
      obtain ⟨tg, c, hw, hr⟩ := opd_rel S hx hv
      obtain ⟨e0, pre, cc, post, f1, f2, f3⟩ := fieldV_rel hfv hfat hr
      unfold fldOk at hfl
      split at hfl
      · rename_i o2 t2 hf
        simp only [Bool.and_eq_true] at hfl
        have := Nat.eq_of_beq_eq_true hfl.1
        subst this
        obtain ⟨l, fl, j, g1, g2, g3, g4, g5⟩ := tabFld_ok ht hf
        obtain ⟨dd, j', k1, k2, k3, k4⟩ := tabSz_ok ht hfl.2
        have hag : v.T.agg = true := fieldV_agg hfv
        rw [hag] at hw
        have hw' : a.eval x = .agg ⟨c⟩ := hw
        have hdg : descAgg dd = u.T.agg := by rw [k4, e3]
        have hpart := part_run (P := P) k1 k2 w (pre := pre) (cs := cc) (post := post) (by rw [f3.length, k3, e2]) (one_of f3 hdg)
        rw [← f1, f2, hdg] at hpart
        refine wp_put_pure (v := u) S hd hk (val := pick u.T.agg cc) ?_ rfl rfl rfl rfl (fieldV_pure hfv hp) (VRel.of_rel f3)
        unfold execOp
        rw [hop]
        have he2 : (⟨l⟩ : Array Field)[n]? = some fl := by simpa using g2
        simp [Instr.field, run_underlying g1, he2, hw', asAgg, g3, g4, hpart]
      · simp at hfl
    · simp at hK
  · simp at hK

def tabSl (tab : Tab) (t es : Nat) : Bool := match tab.get t with
  | some i => (match descSl i.desc with
    | some e => (match tab.get e with
      | some j => Nat.beq j.size es
      | none => false)
    | none => false)
  | none => false
theorem tabSl_ok (ht : TabOk P tab) {t es : Nat} (hs : tabSl tab t es = true) : ∃ e j, P.underlying t = some (.slice e) ∧ P.info? e = some j ∧ j.size = es := by
  unfold tabSl at hs
  split at hs
  · rename_i i hi
    split at hs
    · rename_i e he
      split at hs
      · rename_i j hj
        obtain ⟨_, j', h1, h2, _⟩ := ht e j hj
        exact ⟨e, j', by rw [(ht t i hi).1, descSl_eq he], h1, by rw [h2, Nat.eq_of_beq_eq_true hs]⟩
      · simp at hs
    · simp at hs
  · simp at hs
def tabArr (tab : Tab) (t es al : Nat) : Bool := match tab.get t with
  | some i => (match descArr i.desc with
    | some (n, e) => Nat.beq n al && (match tab.get e with
      | some j => Nat.beq j.size es
      | none => false)
    | none => false)
  | none => false
theorem tabArr_ok (ht : TabOk P tab) {t es al : Nat} (hs : tabArr tab t es al = true) : ∃ e j, P.underlying t = some (.array al e) ∧ P.info? e = some j ∧ j.size = es := by
  unfold tabArr at hs
  split at hs
  · rename_i i hi
    split at hs
    · rename_i n e he
      simp only [Bool.and_eq_true] at hs
      have hn := Nat.eq_of_beq_eq_true hs.1
      subst hn
      have hs2 := hs.2
      split at hs2
      · rename_i j hj
        obtain ⟨_, j', h1, h2, _⟩ := ht e j hj
        exact ⟨e, j', by rw [(ht t i hi).1, descArr_eq he], h1, by rw [h2, Nat.eq_of_beq_eq_true hs2]⟩
      · simp at hs2
    · simp at hs
  · simp at hs

theorem exec_idx_sl {t es : Nat} {x y : Operand} (ht : TabOk P tab) (hop : o.op = .indexAddr t x y) (hs : tabSl tab t es = true) {b off len cap : Nat} {k : IntKind} {i : Int} (hx : a.eval x = .slice (some ⟨b, off, none⟩) len cap) (hy : a.eval y = .int k i)
    (hi : 0 ≤ i ∧ i < len) : (execOp a.eval o).run P w = .ok (.value (.pointer (some ⟨b, off + i.toNat * es, none⟩))) w := by
  obtain ⟨e, j, h1, h2, h3⟩ := tabSl_ok ht hs
  unfold execOp
  rw [hop]
  simp [Instr.indexAt, asIntOf, hx, hy, run_underlying h1, hi.1, hi.2, sizeOf, typeInfo, h2, h3, addr_add]
theorem exec_idx_arr {t es al : Nat} {x y : Operand} (ht : TabOk P tab) (hop : o.op = .indexAddr t x y) (hs : tabArr tab t es al = true) {b off : Nat} {k : IntKind} {i : Int} (hx : a.eval x = .pointer (some ⟨b, off, none⟩)) (hy : a.eval y = .int k i)
    (hi : 0 ≤ i ∧ i < (al : Int)) : (execOp a.eval o).run P w = .ok (.value (.pointer (some ⟨b, off + i.toNat * es, none⟩))) w := by
  obtain ⟨e, j, h1, h2, h3⟩ := tabArr_ok ht hs
  unfold execOp
  rw [hop]
  simp [Instr.indexAt, asIntOf, hx, hy, run_underlying h1, hi.1, hi.2, sizeOf, typeInfo, h2, h3, addr_add, Instr.sureAddr]

theorem idxK_some {α : Type} {xs : List α} {i : Int} {K' : α → Option R} (hK : idxK xs i K' = some r) : 0 ≤ i ∧ ∃ v, xs[i.toNat]? = some v ∧ K' v = some r := by
  unfold idxK at hK
  split at hK
  · rename_i h0
    cases hx : lnth xs i with
    | none => rw [hx] at hK; simp at hK
    | some v => rw [hx] at hK; exact ⟨h0, v, hx, hK⟩
  · simp at hK

theorem gpo_opv {g : Nat → Option SV} {b : Opd} {v : SV} (hv : gpo g b = some v) (hl : v.T.looks = none) : opv g b = some v := by
  cases b with
  | c u => exact hv
  | t s =>
    simp only [gpo, gp] at hv
    split at hv
    · injection hv with hv; subst hv; cases hl
    · injection hv with hv; subst hv; cases hl
    · exact hv
theorem gpo_rel (S : SRel σ h st a.tmps w) {b : Opd} {x : Operand} (hx : opdOk b x = true) {v : SV} (hv : gpo st.get b = some v) :
    ∃ t, VRel σ h v.T v.x (a.eval x) t ∧ (v.T.okTop = true ∨ ∃ u, b = .c u) ∧ ((∀ u, b ≠ .c u) → ∀ u, v.T.looks = some u → ∃ k r, u = k :: r ∧ Owns st k) := by
  cases b with
  | t s =>
    obtain ⟨h1, h2, h3⟩ := gp_rel S hv
    rw [opdT_eval (a := a) hx]
    exact ⟨_, h1, .inl h2, fun _ => h3⟩
  | c u =>
    obtain ⟨t, h1⟩ := opd_rel (o := .c u) S hx (show opv st.get (.c u) = some v from hv)
    exact ⟨t, h1, .inr ⟨u, rfl⟩, fun hh => (hh u rfl).elim⟩

theorem op_idxA {d es al : Nat} {b c : Opd} {t : TypeId} {x y : Operand} (ht : TabOk P tab) (S : SRel σ h st a.tmps w) (hop : o.op = .indexAddr t x y) (hd : dstOk a.tmps.size o d = true) (hnc : ∀ u, b ≠ .c u) (hx : opdOk b x = true) (hy : opdOk c y = true)
    (hs : (bif Nat.beq al 0 then tabSl tab t es else tabArr tab t es al) = true)
    (hK : evOp st.get K (.idxA d b c es al) = some r) : o.wp P a w (Post σ h w st K r a) Q := by
  simp only [evOp] at hK
  split at hK
  · rename_i z cl e xs k i hb hc
    obtain ⟨tg, ⟨cc, hw, hr⟩, hok, _⟩ := gpo_rel S hx hb
    obtain ⟨hyv, _⟩ := opd_int S hy hc
    obtain ⟨hcc, hK⟩ := bif_some hK
    simp only [Bool.and_eq_true] at hcc
    rw [hcc.2] at hs
    have hes := Nat.eq_of_beq_eq_true hcc.1.1
    obtain ⟨h0, v, hv, hk⟩ := idxK_some hK
    have hpe : e.pure = true := by
      rcases hok with hok | ⟨u, hu⟩
      · simpa [Ty.okTop, Ty.closed] using hok
      · exact (hnc u hu).elim
    simp only [Rel] at hr
    obtain ⟨ad, len, cap, e1, e2, e3, e4, dl, e5, e6⟩ := hr
    have hxv : a.eval x = .slice ad len cap := by
      have := slot_single rfl hw; rw [this] at e1; injection e1
    obtain ⟨pre, c1, post, f1, f2, f3⟩ := EList.get (fun _ _ hh => Rel.length hh) e5 hv
    have hlt : i.toNat < List.length (α := e.den) xs := (List.getElem?_eq_some_iff.1 hv).1
    by_cases hdl : dl = []
    · exfalso
      have hl := EList.length (n := e.size) (fun _ _ hh => Rel.length hh) e5
      have h1 := Nat.le_of_ble_eq_true hcc.1.2
      rw [hdl, hes] at hl
      have : 0 < List.length (α := e.den) xs * es := Nat.mul_pos (by omega) (by omega)
      simp only [List.length_nil] at hl
      omega
    · obtain ⟨bk, off, g1, g2⟩ := e6 hdl
      subst g1
      refine wp_put_pure (v := ⟨.cref e, v⟩) S hd hk (exec_idx_sl ht hop hs hxv hyv ⟨h0, by omega⟩) rfl rfl rfl rfl (show (Ty.cref e).pure = true from hpe) (t := tg) ⟨_, rfl, ?_⟩
      simp only [Rel]
      refine ⟨bk, off + i.toNat * es, rfl, c1, f3, fun j u hj => ?_⟩
      rw [Nat.add_assoc]
      refine g2 _ _ ?_
      rw [f1, ← hes, ← f2, List.append_assoc, List.getElem?_append_right (by omega), List.getElem?_append_left (by
        have := (List.getElem?_eq_some_iff.1 hj).1; omega)]
      rw [show pre.length + j - pre.length = j by omega]; exact hj
  · rename_i z u e xs k i hb hc
    obtain ⟨tg, ⟨cc, hw, hr⟩, hok, hlk⟩ := gpo_rel S hx hb
    obtain ⟨hyv, _⟩ := opd_int S hy hc
    obtain ⟨hcc, hK⟩ := bif_some hK
    simp only [Bool.and_eq_true] at hcc
    rw [hcc.2] at hs
    have hes := Nat.eq_of_beq_eq_true hcc.1
    obtain ⟨h0, v, hv, hk⟩ := idxK_some hK
    have hpe : e.pure = true := by
      rcases hok with hok | ⟨u, hu⟩
      · simpa [Ty.okTop] using hok
      · exact (hnc u hu).elim
    simp only [Rel] at hr
    obtain ⟨ad, len, cap, e1, e2, e3, e4⟩ := hr
    have hxv : a.eval x = .slice ad len cap := by
      have := slot_single rfl hw; rw [this] at e1; injection e1
    have hlt : i.toNat < List.length (α := e.den) xs := (List.getElem?_eq_some_iff.1 hv).1
    rcases e4 with e4 | ⟨bk, off, ch, g1, g2, g3, g4⟩
    · omega
    · subst g1
      obtain ⟨pre, c1, post, f1, f2, f3⟩ := EList.get (fun _ _ hh => Rel.length hh) g4 hv
      refine wp_put (v := ⟨.vref u e, v⟩) S hd hk (exec_idx_sl ht hop hs hxv hyv ⟨h0, by omega⟩) rfl rfl rfl rfl ⟨_, rfl, ?_⟩ (by simpa [Ty.okTop] using hpe) (hlk hnc)
      simp only [Rel]
      have hle : i.toNat * e.size + e.size ≤ len * e.size := by
        rw [← Nat.succ_mul]; exact Nat.mul_le_mul_right _ (by omega)
      refine ⟨bk, off + i.toNat * es, ch, rfl, g2, by rw [← hes]; omega, ?_⟩
      have hc1 : (ch.drop (off + i.toNat * es)).take e.size = c1 := by
        have h1 : (((ch.drop off).take (len * e.size)).drop (i.toNat * e.size)).take e.size = c1 := by
          rw [f1, ← f2, List.append_assoc, List.drop_left, ← f3.length, List.take_left]
        rw [← h1, List.drop_take, List.take_take, List.drop_drop, ← hes]
        congr 1
        omega
      rw [hc1]
      exact Rel.pure σ.le_refl hpe f3
  · rename_i m e xs k i hb hc
    obtain ⟨tg, ⟨cc, hw, hr⟩, hok, hlk⟩ := gpo_rel S hx hb
    obtain ⟨hyv, _⟩ := opd_int S hy hc
    obtain ⟨hcc, hK2⟩ := bif_some hK
    simp only [Bool.and_eq_true, Bool.not_eq_true'] at hcc
    rw [hcc.2] at hs
    have hes := Nat.eq_of_beq_eq_true hcc.1.1
    have hml := Nat.eq_of_beq_eq_true hcc.1.2
    subst hes
    obtain ⟨h0, v, hv, hk⟩ := idxK_some hK2
    have hpe : e.pure = true := by
      rcases hok with hok | ⟨u, hu⟩
      · simpa [Ty.okTop, Ty.closed, Ty.pure] using hok
      · exact (hnc u hu).elim
    simp only [Rel] at hr
    obtain ⟨bk, off, e1, dl, ⟨e2, e3⟩, e4⟩ := hr
    have hxv : a.eval x = .pointer (some ⟨bk, off, none⟩) := by
      have := slot_single rfl hw; rw [this] at e1; injection e1
    obtain ⟨pre, c1, post, f1, f2, f3⟩ := EList.get (fun _ _ hh => Rel.length hh) e3 hv
    have hlt : i.toNat < List.length (α := e.den) xs := (List.getElem?_eq_some_iff.1 hv).1
    refine wp_put_pure (v := ⟨.cref e, v⟩) S hd hk (exec_idx_arr ht hop hs hxv hyv ⟨h0, by omega⟩) rfl rfl rfl rfl (show (Ty.cref e).pure = true from hpe) (t := tg) ⟨_, rfl, ?_⟩
    simp only [Rel]
    refine ⟨bk, off + i.toNat * e.size, rfl, c1, Rel.pure σ.le_refl hpe f3, fun j u hj => ?_⟩
    rw [Nat.add_assoc]
    refine e4 _ _ ?_
    rw [f1, ← f2, List.append_assoc, List.getElem?_append_right (by omega), List.getElem?_append_left (by
      have := (List.getElem?_eq_some_iff.1 hj).1; omega)]
    rw [show pre.length + j - pre.length = j by omega]; exact hj
  · rename_i u o1 s1 n1 p1 i1 k i hb hc
    obtain ⟨tg, hvr, hok, hlk⟩ := gpo_rel S hx hb
    obtain ⟨hyv, _⟩ := opd_int S hy hc
    obtain ⟨s0, q, off, str, n, p, i0, r0, C, hv, hK, hr0, hq, hC, ho, hin, bk, ch, hval, hbk⟩ := ptr_use hK (val := a.eval x) (fun u hu => by injection hu with hu; subst hu; exact ⟨_, hvr⟩)
    split at hK
    · rename_i m e hte
      obtain ⟨hcc, hK2⟩ := bif_some hK
      simp only [Bool.and_eq_true, Bool.not_eq_true'] at hcc
      rw [hcc.2] at hs
      have e1 := Nat.eq_of_beq_eq_true hcc.1.1.1
      have e2 := Nat.eq_of_beq_eq_true hcc.1.1.2
      have e3 := Nat.eq_of_beq_eq_true hcc.1.2
      subst e1
      unfold inK' at hK2
      split at hK2
      · rename_i hrange
        injection hv with hv
        injection hv with hT _
        injection hT with hT1 _ _ _ _
        refine wp_put (v := ⟨.ptr (s0 :: q) off e.size m (p ++ [3]), i⟩) S hd hK2 (exec_idx_arr ht hop hs hval hyv ⟨hrange.1, by rw [← e3]; exact hrange.2⟩) rfl rfl rfl rfl ⟨_, rfl, ?_⟩ rfl (fun t ht => hlk hnc t (by rw [← ht]; simp only [Ty.looks]; rw [hT1]))
        simp only [Rel]
        refine ⟨bk, ch, ?_, hbk, by omega⟩
        rw [← e2, Nat.zero_mul, Nat.mul_comm i.toNat]
        rfl
      · simp at hK2
    · simp at hK
  · simp at hK
end
end Go.Proofs.Bw
namespace Go.Proofs.Bw
open Go

section
variable {P : Program} {R : Type} {σ : Sg} {h : Hp} {st : St} {a : Act} {w : World} {K : St → List Tag → Option R} {r : R} {o : Oper} {Q : Exit → Act → World → Prop} {tab : Tab}

def tabD (tab : Tab) (t : Nat) (f : TypeDesc → Bool) : Bool := match tab.get t with
  | some i => f i.desc
  | none => false
theorem tabD_ok (ht : TabOk P tab) {t : Nat} {f : TypeDesc → Bool} (hs : tabD tab t f = true) : ∃ d, P.underlying t = some d ∧ f d = true := by
  unfold tabD at hs
  split at hs
  · rename_i i hi; exact ⟨_, (ht t i hi).1, hs⟩
  · simp at hs
def descIsSl : TypeDesc → Bool
  | .slice _ => true
  | _ => false
theorem descIsSl_eq {d : TypeDesc} (h : descIsSl d = true) : ∃ e, d = .slice e := by cases d <;> simp [descIsSl] at h; exact ⟨_, rfl⟩

theorem byte_in (b : UInt8) : inK .u8 (b.toNat : Int) := by
  have := b.toNat_lt
  simp only [inK, IntKind.min, IntKind.max, IntKind.signed, IntKind.bits]
  simp
  omega

theorem op_idx_str {d es al : Nat} {ag : Bool} {b c : Opd} {t : TypeId} {x y : Operand} (ht : TabOk P tab) (S : SRel σ h st a.tmps w) (hop : o.op = .index t x y) (hd : dstOk a.tmps.size o d = true) (hx : opdOk b x = true) (hy : opdOk c y = true)
    (hs : (bif Nat.beq al 0 then tabD tab t descStr else (tabArr tab t es al && (match tab.get t with
      | some i => (match descArr i.desc with | some (_, e) => tabSz tab e es ag | none => false)
      | none => false))) = true)
    (hK : evOp st.get K (.idx d b c es ag al) = some r) : o.wp P a w (Post σ h w st K r a) Q := by
  simp only [evOp] at hK
  split at hK
  · rename_i xs k i hb hc
    obtain ⟨hal, hK⟩ := bif_some hK
    rw [hal] at hs
    simp only [cond_true] at hs
    obtain ⟨dd, hu, hdd⟩ := tabD_ok ht hs
    rw [descStr_eq hdd] at hu
    obtain ⟨s, hxv, hxs, hsz⟩ := opd_str S hx hb
    obtain ⟨hyv, _⟩ := opd_int S hy hc
    obtain ⟨h0, v, hv, hk⟩ := idxK_some hK
    have hbyte : ∃ u : UInt8, s.data.toList[i.toNat]? = some u ∧ (u.toNat : Int) = v := by
      rw [← hxs] at hv
      unfold ints at hv
      rw [List.getElem?_map] at hv
      cases hu : s.data.toList[i.toNat]? with
      | none => rw [hu] at hv; simp at hv
      | some u => rw [hu] at hv; simp at hv; exact ⟨u, rfl, hv⟩
    obtain ⟨u, hu2, hu3⟩ := hbyte
    have hlt : i.toNat < s.size := by
      have := (List.getElem?_eq_some_iff.1 hu2).1
      simpa using this
    subst hu3
    refine wp_put_pure (v := ⟨.int .u8, (u.toNat : Int)⟩) S hd hk (val := .int .u8 u.toNat) ?_ rfl rfl rfl rfl rfl (vrel_int (byte_in u) [])
    have hget : s[i.toNat]? = some u := by
      rw [getElem?_pos s i.toNat hlt]
      have h3 := List.getElem?_eq_getElem (l := s.data.toList) (i := i.toNat) (by simpa using hlt)
      rw [hu2] at h3
      injection h3 with h3
      rw [h3]
      rfl
    unfold execOp
    rw [hop]
    simp [Instr.index, hxv, hyv, asIntOf, run_underlying hu, h0, hget]
  · rename_i m e xs k i hb hc
    obtain ⟨hcc, hK⟩ := bif_some hK
    simp only [Bool.and_eq_true, Bool.not_eq_true'] at hcc
    obtain ⟨⟨⟨⟨hpe, hes⟩, hag⟩, hml⟩, hal⟩ := hcc
    rw [hal] at hs
    simp only [cond_false, Bool.and_eq_true] at hs
    have hes := Nat.eq_of_beq_eq_true hes
    have hag := bbeq_eq hag
    have hml := Nat.eq_of_beq_eq_true hml
    obtain ⟨hs1, hs2⟩ := hs
    obtain ⟨tg, ⟨cc, hw, hr⟩⟩ := opd_rel S hx hb
    obtain ⟨hyv, _⟩ := opd_int S hy hc
    obtain ⟨h0, v, hv, hk⟩ := idxK_some hK
    simp only [Rel] at hr
    have hxv : a.eval x = .agg ⟨cc⟩ := hw
    obtain ⟨pre, c1, post, f1, f2, f3⟩ := EList.get (fun _ _ hh => Rel.length hh) hr.2 hv
    have hlt : i.toNat < List.length (α := e.den) xs := (List.getElem?_eq_some_iff.1 hv).1
    split at hs2
    · rename_i ti hti
      split at hs2
      · rename_i nn ee hdesc
        obtain ⟨dd, j', k1, k2, k3, k4⟩ := tabSz_ok ht hs2
        have hut : P.underlying t = some (.array nn ee) := by rw [(ht t ti hti).1, descArr_eq hdesc]
        obtain ⟨e2, j2, g1, g2, g3⟩ := tabArr_ok ht hs1
        rw [hut] at g1
        injection g1 with g1
        injection g1 with g1 g1'
        subst g1 g1'
        have hdg : descAgg dd = e.agg := by rw [k4, hag]
        have hpart := part_run (P := P) k1 k2 w (pre := pre) (cs := c1) (post := post) (by rw [f3.length, k3, hes]) (one_of f3 hdg)
        rw [← f1, f2, hdg, hes] at hpart
        refine wp_put_pure (v := ⟨e, v⟩) S hd hk (val := pick e.agg c1) ?_ rfl rfl rfl rfl hpe (VRel.of_rel f3)
        have hr1 := hr.1
        unfold execOp
        rw [hop]
        have hi2 : i < (nn : Int) := by omega
        simp [Instr.index, hxv, hyv, asIntOf, run_underlying hut, h0, hi2, sizeOf, typeInfo, g2, g3, hpart]
      · simp at hs2
    · simp at hs2
  · simp at hK
end
end Go.Proofs.Bw

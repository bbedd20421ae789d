/- Functions told without frames: pieces, and why they answer as the code trees do. -/
import Derived.Test.YtgcciohenncplaaAi25
namespace Go.Proofs.Ytgcciohenncplaa.Ai
noncomputable section
variable {V W R : Type}

/-- A piece of code on its variables. -/
abbrev SC (V W R : Type) := V → AS → (Ex → W → AS → Option R) → Option R

def Sim (call : Nat → List AV → M AV) (fuel : Nat) (mi : V → Fr) (mo : W → Fr) (c : AC) (sc : SC V W R) : Prop :=
  ∀ v s k, acodeC call fuel c (mi v) s k = sc v s (fun e w s' => k e (mo w) s')

noncomputable section
def sReg (n : Nat) (body : V → Nat → AS → (W → AS → Option R) → Option R) : SC V W R :=
  fun v s k => @AS.rec (fun _ => Option R) (fun h n0 lim => forceN n0 (fun n0 => forceN (Nat.add n0 n) (fun m => body v n0 ⟨h, m, lim⟩ (k .norm)))) s
def sSkip : SC V V R := fun v s k => k .norm v s
def sRet : SC V V R := fun v s k => k .ret v s
def sExit (id : Nat) : SC V V R := fun v s k => k (.exit id) v s
def sSeq (a : SC V W R) (b : SC W W R) : SC V W R := fun v s k => a v s (fun e w s' => @Ex.rec (fun _ => Option R) (b w s' k) (fun j => k (.exit j) w s') (k .ret w s') e)
def sCond (g : V → AV) (a b : SC V W R) : SC V W R := fun v s k => match g v with
  | .bool x => @Bool.rec (fun _ => Option R) (b v s k) (a v s k) x
  | _ => none
def sBlock (id : Nat) (a : SC V W R) : SC V W R := fun v s k => a v s (fun e w s' => @Ex.rec (fun _ => Option R) (k .norm w s') (fun j => k (@Bool.rec (fun _ => Ex) (.exit j) .norm (Nat.beq j id)) w s') (k .ret w s') e)
def loopS (body : SC V V R) (n : Nat) : SC V V R := @Nat.rec (fun _ => SC V V R) (fun _ _ _ => none) (fun _ ih v s k => body v s (fun e v' s' => @Ex.rec (fun _ => Option R) (ih v' s' k) (fun j => k (.exit j) v' s') (k .ret v' s') e)) n
def sLoop (fuel : Nat) (a : SC V V R) : SC V V R := loopS a fuel
end

variable {call : Nat → List AV → M AV} {fuel : Nat} {mi : V → Fr} {mo : W → Fr}

theorem sim_reg {l : List AIns} {n : Nat} {keep : List Nat} {body : V → Nat → AS → (W → AS → Option R) → Option R}
    (h : ∀ (v : V) (base : Nat) (s : AS) (k : Fr → AS → Option R), runOpsC call base l (mi v) s (fun F s' => k (forget F keep) s') = body v base s (fun w s' => k (mo w) s')) :
    Sim call fuel mi mo (.ops l n keep) (sReg n body) := by
  intro v s k
  obtain ⟨sh, sn, sl⟩ := s
  unfold acodeC sReg
  dsimp only
  rw [forceN_eq, forceN_eq, forceN_eq]
  exact h v sn _ (fun F s' => k .norm F s')
theorem sim_skip : Sim (R := R) call fuel mo mo .skip sSkip := fun _ _ _ => rfl
theorem sim_ret : Sim (R := R) call fuel mo mo .ret sRet := fun _ _ _ => rfl
theorem sim_exit {id : Nat} : Sim (R := R) call fuel mo mo (.exit id) (sExit id) := fun _ _ _ => rfl
theorem sim_seq {a b : AC} {sa : SC V W R} {sb : SC W W R} (ha : Sim call fuel mi mo a sa) (hb : Sim call fuel mo mo b sb) :
    Sim call fuel mi mo (.seq a b) (sSeq sa sb) := by
  intro v s k
  unfold acodeC sSeq
  rw [ha]
  congr 1
  funext e w s'
  cases e with
  | norm => exact hb w s' k
  | exit j => rfl
  | ret => rfl
theorem sim_cond {c : Opd} {g : V → AV} {a b : AC} {sa sb : SC V W R} (hc : ∀ v, c.ev (mi v) = g v) (ha : Sim call fuel mi mo a sa) (hb : Sim call fuel mi mo b sb) :
    Sim call fuel mi mo (.cond c a b) (sCond g sa sb) := by
  intro v s k
  unfold acodeC sCond
  rw [hc]
  cases g v with
  | bool x => cases x with
    | true => exact ha v s k
    | false => exact hb v s k
  | _ => rfl
theorem sim_block {id : Nat} {a : AC} {sa : SC V W R} (ha : Sim call fuel mi mo a sa) : Sim call fuel mi mo (.block id a) (sBlock id sa) := by
  intro v s k
  unfold acodeC sBlock
  rw [ha]
  congr 1
  funext e w s'
  cases e with
  | norm => rfl
  | exit j => show k (bif Nat.beq j id then .norm else .exit j) (mo w) s' = k _ (mo w) s'; cases Nat.beq j id <;> rfl
  | ret => rfl
theorem sim_loop {a : AC} {sa : SC W W R} (ha : Sim call fuel mo mo a sa) : Sim call fuel mo mo (.loop a) (sLoop fuel sa) := by
  intro v s k
  unfold acodeC sLoop
  have : ∀ (n : Nat) (v : W) (s : AS) (k : Ex → Fr → AS → Option R), loopC (acodeC call fuel a) n (mo v) s k = loopS sa n v s (fun e w s' => k e (mo w) s') := by
    intro n
    induction n with
    | zero => intro v s k; rfl
    | succ n ih =>
      intro v s k
      unfold loopC
      rw [ha]
      show _ = sa v s _
      congr 1
      funext e w s'
      cases e with
      | norm => exact ih w s' k
      | exit j => rfl
      | ret => rfl
  exact this fuel v s k

/- Operations on values. -/
def pickA (c a b : AV) : Option AV := match c with
  | .bool true => some a
  | .bool false => some b
  | _ => none
def buildA (z : List AV) (ps : List (Nat × Nat × AV)) : Option AV := match fillA z ps with
  | some cs => some (.agg cs)
  | none => none
def nilchkA (x : AV) : Option AV := match x with
  | .ptr id i k => some (.ptr id i k)
  | .rptr row k => some (.rptr row k)
  | .fn f c => some (.fn f c)
  | _ => none
def notA (x : AV) : Option AV := match x with
  | .bool b => some (.bool (!b))
  | _ => none
def negA (x : AV) : Option AV := match x with
  | .int k n => some (.int k (k.wrap (0 - n)))
  | _ => none
def fldA (off : Nat) (x : AV) : Option AV := match x with
  | .ptr id i k => some (.ptr id i (k + off))
  | .rptr row k => some (.rptr row (k + off))
  | _ => none
def partV (ag : Bool) (off sz : Nat) (x : AV) : Option AV := match x with
  | .agg cs => partA ag off sz cs
  | _ => none
def idxaA (len sz : Nat) (x i : AV) : Option AV := match asNat i, x with
  | some j, .ptr id r k => if j < len then some (.ptr id r (k + j * sz)) else none
  | some j, .rptr row k => if j < len then some (.rptr row (k + j * sz)) else none
  | _, _ => none
def idxsA (s i : AV) : Option AV := match s, asNat i with
  | .str l, some j => match l[j]? with
    | some b => some (.int .u8 b.toNat)
    | none => none
  | _, _ => none
def boundV (d : Nat) : Option AV → Option Nat
  | none => some d
  | some o => asNat o
def optV : Option AV → Option (Option Nat)
  | none => some none
  | some h => (asNat h).map some
def cutsA (x : AV) (lo hi : Option AV) : Option AV := match x, boundV 0 lo with
  | .str l, some a => match boundV l.length hi with
    | some b => if a ≤ b ∧ b ≤ l.length then some (.str ((l.take b).drop a)) else none
    | none => none
  | _, _ => none
def cutV (sz : Nat) (x : AV) (lo hi mx : Option AV) : Option AV := match boundV 0 lo, optV hi, optV mx with
  | some a, some b, some c => cutA sz x a b c
  | _, _, _ => none
def extrA (x : AV) (i : Nat) : Option AV := match x with
  | .tup vs => vs[i]?
  | _ => none
def convA (k : IntKind) (x : AV) : Option AV := match x with
  | .int _ n => some (.int k (k.wrap n))
  | _ => none
def miniA (x y : AV) : Option AV := match x, y with
  | .int k a, .int k' b => if k = k' then some (.int k (if b < a then b else a)) else none
  | _, _ => none
def maxiA (x y : AV) : Option AV := match x, y with
  | .int k a, .int k' b => if k = k' then some (.int k (if b > a then b else a)) else none
  | _, _ => none
def loadA (ag : Bool) (sz : Nat) (a : AV) (h : Heap) : Option AV := match a with
  | .ptr id i k => match h id with
    | some (.rows rs) => match rs[i]? with
      | some row => takeRow ag sz k row
      | none => none
    | _ => none
  | .rptr row k => takeRow ag sz k row
  | _ => none
def lookupA (z : AV) (ok : Bool) (ks : List Bool) (m k : AV) (h : Heap) : Option AV := ROp.ev [] h (.lookup z ok ks (.const m) (.const k))
def lenMA (m : AV) (h : Heap) : Option AV := match m with
  | .nilm => some (.int .i64 0)
  | .map id => match h id with
    | some (.map es) => some (.int .i64 es.length)
    | _ => none
  | _ => none
def b2sA (x : AV) (h : Heap) : Option AV := match rowsOf h x with
  | some rows => match bytesOf rows with
    | some l => some (.str l)
    | none => none
  | none => none
def rowsA (z : List AV) (len : Nat) (ps : List (Nat × AV)) : Option AV := match fillRows (List.replicate len z) ps with
  | some [] => some .emp
  | some rs => some (.ro rs)
  | none => none
def allocB (z : List AV) (aid : Nat) : Option (Blk × AV) := some (.rows [z], .ptr aid 0 0)
def boxB (x : AV) (aid : Nat) : Option (Blk × AV) := if scals x.cells then some (.rows [x.cells], .ptr aid 0 0) else none
def bldB (aid : Nat) : Option (Blk × AV) := some (.bld, .ptr aid 0 0)
def mapB (aid : Nat) : Option (Blk × AV) := some (.map [], .map aid)
def rowB (z : List AV) (n : AV) (aid : Nat) : Option (Blk × AV) := match n with
  | .int .i64 m => if 0 ≤ m ∧ m ≤ 1000000 then some (.rows (List.replicate m.toNat z), .sl aid 0 m.toNat z.length false) else none
  | _ => none
def mapsetA (ks : List Bool) (m k v : AV) (s : AS) : Option (AV × AS) := EOp.ev (fun _ _ _ => none) [] 0 (.mapset ks (.const m) (.const k) (.const v)) s
def mapentA (ks : List Bool) (z m k : AV) (s : AS) : Option (AV × AS) := EOp.ev (fun _ _ _ => none) [] 0 (.mapent ks z (.const m) (.const k)) s
def entsetA (m st v : AV) (s : AS) : Option (AV × AS) := EOp.ev (fun _ _ _ => none) [] 0 (.entset (.const m) (.const st) (.const v)) s
def wantG (v : AV) (want : Bool) : Option Bool := match v with
  | .bool b => some (b == want)
  | .tup _ => some false
  | _ => none
def rcS (w : Option Bool) (f : Heap → Option AV) (h h' : Heap) : Bool := match w with
  | some false => true
  | _ => match f h, f h' with
    | some u, some u' => same 8 u u'
    | _, _ => false

def resS : List (Heap → Option AV) → Heap → Option (List AV)
  | [], _ => some []
  | r :: l, h => match r h, resS l h with
    | some v, some vs => some (v :: vs)
    | _, _ => none

theorem afn_sim {A : AFn} {sc : SC V W (AV × AS)} {v : V} {args : List AV} {s : AS} {e2 : Ex → W → AS → Option (AV × AS)} (h : Sim call fuel mi mo A.code sc)
    (ha : args ++ List.replicate (A.ntmps - A.nargs) (.tup []) = mi v) (hl : Nat.beq args.length A.nargs = true) (he : ∀ e w s, fin A e (mo w) s = e2 e w s) :
    afn call fuel A args s = sc v s e2 := by
  unfold afn
  rw [hl, cond_true, ha, h]
  congr 1
  funext e w s
  exact he e w s

end
end Go.Proofs.Ytgcciohenncplaa.Ai

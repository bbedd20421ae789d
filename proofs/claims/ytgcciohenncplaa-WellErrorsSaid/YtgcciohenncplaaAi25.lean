/- The plain run, told with what comes behind (for fast runs and for the printed functions): answers as the plain run does. -/
import Derived.Test.YtgcciohenncplaaAi24
namespace Go.Proofs.Ytgcciohenncplaa.Ai
noncomputable section
variable {R : Type}

noncomputable section
def forceN (n : Nat) (k : Nat → Option R) : Option R := @Nat.rec (fun _ => Option R) (k 0) (fun p _ => k (Nat.succ p)) n
theorem forceN_eq (n : Nat) (k : Nat → Option R) : forceN n k = k n := by cases n <;> rfl
def forceI (n : Int) (k : Int → Option R) : Option R := @Int.rec (fun _ => Option R) (fun m => forceN m (fun m => k (.ofNat m))) (fun m => forceN m (fun m => k (.negSucc m))) n
theorem forceI_eq (n : Int) (k : Int → Option R) : forceI n k = k n := by
  cases n with
  | ofNat m => exact forceN_eq m (fun m => k (.ofNat m))
  | negSucc m => exact forceN_eq m (fun m => k (.negSucc m))
def forceB (b : Bool) (k : Bool → Option R) : Option R := @Bool.rec (fun _ => Option R) (k false) (k true) b
theorem forceB_eq (b : Bool) (k : Bool → Option R) : forceB b k = k b := by cases b <;> rfl
def forceV (v : AV) (k : AV → Option R) : Option R :=
  @AV.casesOn (fun _ => Option R) v (k .top) (fun b => forceB b (fun b => k (.bool b))) (fun d n => forceI n (fun n => k (.int d n))) (fun l => k (.str l)) (k .nilp) (fun a b c => k (.ptr a b c)) (fun r i => k (.rptr r i)) (k .nils) (k .emp) (fun a b c d e => k (.sl a b c d e)) (fun r => k (.ro r)) (k .nilm) (fun i => k (.map i)) (fun f c => k (.fn f c)) (k .nilf) (fun c => k (.agg c)) (fun c => k (.tup c))
theorem forceV_eq (v : AV) (k : AV → Option R) : forceV v k = k v := by
  cases v with
  | bool b => exact forceB_eq b (fun b => k (.bool b))
  | int d n => exact forceI_eq n (fun n => k (.int d n))
  | _ => rfl

def bndO (o : Option (AV × AS)) (k : AV → AS → Option R) : Option R := @Option.rec (AV × AS) (fun _ => Option R) none (fun p => @Prod.rec AV AS (fun _ => Option R) (fun v s => forceV v (fun v => k v s)) p) o
theorem bndO_eq (o : Option (AV × AS)) (k : AV → AS → Option R) : bndO o k = o.bind (fun p => k p.1 p.2) := by
  cases o with
  | none => rfl
  | some p => exact forceV_eq p.1 (fun v => k v p.2)
@[simp] theorem bndO_some (v : AV) (s : AS) (k : AV → AS → Option R) : bndO (some (v, s)) k = k v s := forceV_eq v (fun v => k v s)
@[simp] theorem bndO_none (k : AV → AS → Option R) : bndO none k = none := rfl
/-- Of an operation that leaves memory as it is. -/
def bndP (o : Option AV) (k : AV → Option R) : Option R := @Option.rec AV (fun _ => Option R) none (fun v => forceV v k) o
theorem bndP_eq (o : Option AV) (k : AV → Option R) : bndP o k = o.bind k := by
  cases o with
  | none => rfl
  | some v => exact forceV_eq v k
@[simp] theorem bndP_some (v : AV) (k : AV → Option R) : bndP (some v) k = k v := forceV_eq v k
@[simp] theorem bndP_none (k : AV → Option R) : bndP none k = none := rfl
def ifB {α : Type} (b : Bool) (x y : α) : α := @Bool.rec (fun _ => α) y x b
theorem ifB_eq {α : Type} (b : Bool) (x y : α) : ifB b x y = bif b then x else y := by cases b <;> rfl
end

def pureO (o : Option AV) (s : AS) : Option (AV × AS) :=
  match o with
  | some v => some (v, s)
  | none => none
@[simp] theorem pureO_some (v : AV) (s : AS) : pureO (some v) s = some (v, s) := rfl
@[simp] theorem pureO_none (s : AS) : pureO none s = none := rfl

/-! ### The same, quicker for the kernel -/
noncomputable section
variable {α β : Type}
def nthR (l : List α) : Nat → Option α := @List.rec α (fun _ => Nat → Option α) (fun _ => none) (fun x _ ih i => @Nat.rec (fun _ => Option α) (some x) (fun k _ => ih k) i) l
theorem nthR_eq : ∀ (l : List α) (n : Nat), nthR l n = l[n]?
  | [], n => by simp; rfl
  | x :: r, 0 => rfl
  | x :: r, n + 1 => by rw [List.getElem?_cons_succ]; exact nthR_eq r n
def tl (l : List α) : List α := @List.rec α (fun _ => List α) [] (fun _ r _ => r) l
theorem tl_eq (l : List α) : tl l = l.drop 1 := by cases l <;> rfl
def tl8 (l : List α) : List α := tl (tl (tl (tl (tl (tl (tl (tl l)))))))
theorem tl8_eq (l : List α) : tl8 l = l.drop 8 := by simp only [tl8, tl_eq, List.drop_drop]
def drop8 (l : List α) (n : Nat) : List α := @Nat.rec (fun _ => List α → List α) (fun l => l) (fun _ ih l => ih (tl8 l)) n l
theorem drop8_eq : ∀ (n : Nat) (l : List α), drop8 l n = l.drop (8 * n)
  | 0, l => rfl
  | n + 1, l => by
    show drop8 (tl8 l) n = _
    rw [drop8_eq n, tl8_eq, List.drop_drop]
    congr 1; omega
def nthQ (l : List α) (n : Nat) : Option α := nthR (drop8 l (Nat.div n 8)) (Nat.mod n 8)
theorem nthQ_eq (l : List α) (n : Nat) : nthQ l n = l[n]? := by
  unfold nthQ
  rw [nthR_eq, drop8_eq, List.getElem?_drop]
  congr 1
  exact Nat.div_add_mod n 8
/-- A list, worked out to its end. -/
def normL (l : List α) (k : List α → β) : β := @List.rec α (fun _ => (List α → β) → β) (fun k => k []) (fun x _ ih k => ih (fun r => k (x :: r))) l k
theorem normL_eq : ∀ (l : List α) (k : List α → β), normL l k = k l
  | [], _ => rfl
  | x :: r, k => normL_eq r (fun r => k (x :: r))
def lenQ (l : List α) : Nat := @List.rec α (fun _ => Nat) 0 (fun _ _ ih => Nat.succ ih) l
theorem lenQ_eq : ∀ (l : List α), lenQ l = l.length
  | [] => rfl
  | _ :: r => congrArg Nat.succ (lenQ_eq r)
def dropR (k : Nat) (l : List α) : List α := @Nat.rec (fun _ => List α → List α) (fun l => l) (fun _ ih l => ih (tl l)) k l
theorem dropR_eq : ∀ (k : Nat) (l : List α), dropR k l = l.drop k
  | 0, l => rfl
  | k + 1, l => by
    show dropR k (tl l) = _
    rw [dropR_eq k, tl_eq, List.drop_drop]
    congr 1; omega
def takeR (n : Nat) (l : List α) : List α := @List.rec α (fun _ => Nat → List α) (fun _ => []) (fun x _ ih n => @Nat.rec (fun _ => List α) [] (fun m _ => x :: ih m) n) l n
theorem takeR_eq : ∀ (l : List α) (n : Nat), takeR n l = l.take n
  | [], n => by simp; rfl
  | x :: r, 0 => rfl
  | x :: r, n + 1 => by rw [List.take_succ_cons, ← takeR_eq r n]; rfl
def catR (l m : List α) : List α := @List.rec α (fun _ => List α) m (fun x _ ih => x :: ih) l
theorem catR_eq : ∀ (l m : List α), catR l m = l ++ m
  | [], _ => rfl
  | x :: r, m => by rw [List.cons_append, ← catR_eq r m]; rfl
def allR (f : α → Bool) (l : List α) : Bool := @List.rec α (fun _ => Bool) true (fun x _ ih => @Bool.rec (fun _ => Bool) false ih (f x)) l
theorem allR_eq (f : α → Bool) : ∀ (l : List α), allR f l = l.all f
  | [] => rfl
  | x :: r => by
    show @Bool.rec (fun _ => Bool) false (allR f r) (f x) = _
    rw [allR_eq f r, List.all_cons]
    cases f x <;> rfl
def scalQ (v : AV) : Bool := @AV.casesOn (fun _ => Bool) v false (fun _ => true) (fun _ _ => true) (fun _ => true) true (fun _ _ _ => true) (fun _ _ => true) true true (fun _ _ _ _ _ => true) (fun _ => true) true (fun _ => true) (fun _ _ => true) true (fun _ => false) (fun _ => false)
theorem scalQ_eq (v : AV) : scalQ v = v.scal := by cases v <;> rfl
def scalsQ (l : List AV) : Bool := allR scalQ l
theorem scalsQ_eq (l : List AV) : scalsQ l = scals l := by
  unfold scalsQ scals
  rw [allR_eq]
  congr 1
  funext v
  exact scalQ_eq v
/-- Conditions as truth values. -/
theorem ifB_beq (a b : Nat) (x y : α) : ifB (Nat.beq a b) x y = if a = b then x else y := by
  rw [ifB_eq]
  by_cases h : a = b
  · subst h; rw [show Nat.beq a a = true from Nat.beq_refl a, if_pos rfl]; rfl
  · rw [if_neg h]
    cases hb : Nat.beq a b with
    | false => rfl
    | true => exact absurd (Nat.eq_of_beq_eq_true hb) h
theorem ifB_ble (a b : Nat) (x y : α) : ifB (Nat.ble a b) x y = if a ≤ b then x else y := by
  rw [ifB_eq]
  by_cases h : a ≤ b
  · rw [if_pos h, Nat.ble_eq_true_of_le h]; rfl
  · rw [if_neg h]
    cases hb : Nat.ble a b with
    | false => rfl
    | true => exact absurd (Nat.le_of_ble_eq_true hb) h
theorem ifB_true (b : Bool) (x y : α) : ifB b x y = if b = true then x else y := by
  rw [ifB_eq]; cases b <;> rfl
theorem ite_and' {p q : Prop} [Decidable p] [Decidable q] (x y : α) : (if p ∧ q then x else y) = if p then (if q then x else y) else y := by
  by_cases hp : p <;> by_cases hq : q <;> simp [hp, hq]
def onS (s : AS) (f : Heap → Nat → Nat → β) : β := @AS.rec (fun _ => β) f s
theorem onS_eq (s : AS) (f : Heap → Nat → Nat → β) : onS s f = f s.h s.n s.lim := rfl

/-- Are two texts one? -/
def eqS (a : List UInt8) : List UInt8 → Bool := @List.rec UInt8 (fun _ => List UInt8 → Bool) (fun b => @List.rec UInt8 (fun _ => Bool) true (fun _ _ _ => false) b)
  (fun x _ ih b => @List.rec UInt8 (fun _ => Bool) false (fun y r _ => @Bool.rec (fun _ => Bool) false (ih r) (Nat.beq x.toNat y.toNat)) b) a
theorem eqS_eq : ∀ (a b : List UInt8), eqS a b = (a == b)
  | [], [] => rfl
  | [], _ :: _ => rfl
  | _ :: _, [] => rfl
  | x :: r, y :: q => by
    have ih := eqS_eq r q
    show @Bool.rec (fun _ => Bool) false (eqS r q) (Nat.beq x.toNat y.toNat) = _
    by_cases h : x = y
    · subst h
      rw [show Nat.beq x.toNat x.toNat = true from Nat.beq_refl _, ih]
      simp
    · have : Nat.beq x.toNat y.toNat = false := by
        cases hb : Nat.beq x.toNat y.toNat with
        | false => rfl
        | true => exact absurd (UInt8.toNat_inj.1 (Nat.eq_of_beq_eq_true hb)) h
      rw [this]
      simp [h]

def sameK : IntKind → IntKind → Bool
  | .i64, .i64 => true
  | .u8, .u8 => true
  | k, k' => decide (k = k')
theorem sameK_eq (k k' : IntKind) : sameK k k' = decide (k = k') := by
  unfold sameK
  split <;> simp

/-- Whole numbers that are not below 0, compared. -/
def cmpQ (op : ABin) (f : Nat → Nat → Bool) (x y : AV) : Option AV :=
  match x with
  | .int k a => match y with
    | .int k' b => match sameK k k' with
      | true => match a with
        | .ofNat m => match b with
          | .ofNat n => some (.bool (f m n))
          | b => binA op (.int k (.ofNat m)) (.int k' b)
        | a => binA op (.int k a) (.int k' b)
      | false => binA op (.int k a) (.int k' b)
    | y => binA op (.int k a) y
  | x => binA op x y
theorem cmpQ_eq {op : ABin} {f : Nat → Nat → Bool} (h : ∀ k (m n : Nat), binA op (.int k (.ofNat m)) (.int k (.ofNat n)) = some (.bool (f m n))) (x y : AV) : cmpQ op f x y = binA op x y := by
  unfold cmpQ
  split
  · split
    · rename_i k a k' b
      split
      · rename_i hk
        rw [sameK_eq] at hk
        obtain rfl := of_decide_eq_true hk
        split
        · split
          · exact (h _ _ _).symm
          · rfl
        · rfl
      · rfl
    · rfl
  · rfl
def strQ (op : ABin) (f : Nat → Nat → Bool) (g : Bool → Bool) (x y : AV) : Option AV :=
  match x with
  | .str a => match y with
    | .str b => some (.bool (g (eqS a b)))
    | y => binA op (.str a) y
  | x => cmpQ op f x y
def addI (a b : Int) : Option AV :=
  match a with
  | .ofNat m => match b with
    | .ofNat n => bif Nat.ble (Nat.add m n) 9223372036854775807 then some (.int .i64 (.ofNat (Nat.add m n))) else binA .add (.int .i64 (.ofNat m)) (.int .i64 (.ofNat n))
    | b => binA .add (.int .i64 (.ofNat m)) (.int .i64 b)
  | a => binA .add (.int .i64 a) (.int .i64 b)
def subI (a b : Int) : Option AV :=
  match a with
  | .ofNat m => match b with
    | .ofNat n => bif Nat.ble n m then bif Nat.ble m 9223372036854775807 then some (.int .i64 (.ofNat (Nat.sub m n))) else binA .sub (.int .i64 (.ofNat m)) (.int .i64 (.ofNat n)) else binA .sub (.int .i64 (.ofNat m)) (.int .i64 (.ofNat n))
    | b => binA .sub (.int .i64 (.ofNat m)) (.int .i64 b)
  | a => binA .sub (.int .i64 a) (.int .i64 b)
theorem wrap_small {n : Nat} (h : n ≤ 9223372036854775807) : IntKind.i64.wrap (n : Int) = n := by
  have hb : IntKind.i64.bits = 64 := rfl
  have hs : IntKind.i64.signed = true := rfl
  unfold IntKind.wrap
  rw [hb, hs]
  have h1 : (n : Int) % 2 ^ 64 = n := by omega
  simp only [h1, Bool.true_and]
  rw [if_neg]
  simp; omega
theorem i_beq (m n : Nat) : (Int.ofNat m == Int.ofNat n) = Nat.beq m n := by
  rw [Bool.eq_iff_iff]; simp; try omega
theorem i_lt (m n : Nat) : decide (Int.ofNat m < Int.ofNat n) = Nat.blt m n := by
  rw [Bool.eq_iff_iff]; simp [Nat.blt]; omega
theorem i_le (m n : Nat) : decide (Int.ofNat m ≤ Int.ofNat n) = Nat.ble m n := by
  rw [Bool.eq_iff_iff]; simp; try omega
theorem addI_eq (a b : Int) : addI a b = binA .add (.int .i64 a) (.int .i64 b) := by
  cases a with
  | negSucc m => rfl
  | ofNat m => cases b with
    | negSucc n => rfl
    | ofNat n =>
      unfold addI
      dsimp only
      cases hb : Nat.ble (Nat.add m n) 9223372036854775807 with
      | false => rfl
      | true =>
        have := wrap_small (Nat.le_of_ble_eq_true hb)
        simp only [cond_true, binA, if_pos]
        rw [show (Int.ofNat m + Int.ofNat n) = ((Nat.add m n : Nat) : Int) from rfl, this]
        rfl
theorem subI_eq (a b : Int) : subI a b = binA .sub (.int .i64 a) (.int .i64 b) := by
  cases a with
  | negSucc m => rfl
  | ofNat m => cases b with
    | negSucc n => rfl
    | ofNat n =>
      unfold subI
      dsimp only
      cases hb : Nat.ble n m with
      | false => rfl
      | true =>
        cases hc : Nat.ble m 9223372036854775807 with
        | false => rfl
        | true =>
          have h1 := Nat.le_of_ble_eq_true hb
          have h2 := Nat.le_of_ble_eq_true hc
          have := wrap_small (n := m - n) (by omega)
          simp only [cond_true, binA, if_pos]
          rw [show (Int.ofNat m - Int.ofNat n) = ((m - n : Nat) : Int) by simp; omega, this]
          rfl
def ariQ (op : ABin) (f : Int → Int → Option AV) (x y : AV) : Option AV :=
  match x with
  | .int k a => match y with
    | .int k' b => match k, k' with
      | .i64, .i64 => f a b
      | k, k' => binA op (.int k a) (.int k' b)
    | y => binA op (.int k a) y
  | x => binA op x y
theorem ariQ_eq {op : ABin} {f : Int → Int → Option AV} (h : ∀ a b, f a b = binA op (.int .i64 a) (.int .i64 b)) (x y : AV) : ariQ op f x y = binA op x y := by
  unfold ariQ
  split
  · split
    · split
      · exact h _ _
      · rfl
    · rfl
  · rfl
def addQ (x y : AV) : Option AV :=
  match x with
  | .str a => match y with
    | .str b => ifB (Nat.ble (Nat.add (lenQ a) (lenQ b)) 9223372036854775807) (normL (catR a b) (fun l => some (.str l))) none
    | y => binA .add (.str a) y
  | x => ariQ .add addI x y
def binQ (op : ABin) (x y : AV) : Option AV :=
  match op with
  | .add => addQ x y
  | .sub => ariQ .sub subI x y
  | .eql => strQ .eql Nat.beq (fun b => b) x y
  | .neq => strQ .neq (fun m n => !(Nat.beq m n)) (fun b => !b) x y
  | .lss => cmpQ .lss Nat.blt x y
  | .leq => cmpQ .leq Nat.ble x y
  | .gtr => cmpQ .gtr (fun m n => Nat.blt n m) x y
  | .geq => cmpQ .geq (fun m n => Nat.ble n m) x y
  | op => binA op x y
theorem binQ_eq (op : ABin) (x y : AV) : binQ op x y = binA op x y := by
  unfold binQ
  split
  · unfold addQ
    split
    · split
      · rename_i a b
        rw [normL_eq, ifB_ble, lenQ_eq, lenQ_eq, catR_eq]; rfl
      · rfl
    · exact ariQ_eq addI_eq _ _
  · exact ariQ_eq subI_eq _ _
  · unfold strQ
    split
    · split
      · rw [eqS_eq]; rfl
      · rfl
    · refine cmpQ_eq (fun k m n => ?_) _ _
      simp only [binA, if_pos]
      congr 2
      exact i_beq m n
  · unfold strQ
    split
    · split
      · rw [eqS_eq]; rfl
      · rfl
    · refine cmpQ_eq (fun k m n => ?_) _ _
      simp only [binA, if_pos]
      congr 2
      show (!(Int.ofNat m == Int.ofNat n)) = _; rw [i_beq]
  · refine cmpQ_eq (fun k m n => ?_) _ _
    simp only [binA, if_pos]
    congr 2
    exact i_lt m n
  · refine cmpQ_eq (fun k m n => ?_) _ _
    simp only [binA, if_pos]
    congr 2
    exact i_le m n
  · refine cmpQ_eq (fun k m n => ?_) _ _
    simp only [binA, if_pos]
    congr 2
    exact i_lt n m
  · refine cmpQ_eq (fun k m n => ?_) _ _
    simp only [binA, if_pos]
    congr 2
    exact i_le n m
  · rfl

def asNatQ (x : AV) : Option Nat := match x with
  | .int .i64 (.ofNat n) => some n
  | x => asNat x
theorem asNatQ_eq (x : AV) : asNatQ x = asNat x := by
  unfold asNatQ
  split
  · rename_i n
    show _ = if (0 : Int) ≤ Int.ofNat n then some (Int.ofNat n).toNat else none
    rw [if_pos (show (0 : Int) ≤ Int.ofNat n from Int.natCast_nonneg n)]; rfl
  · rfl
def idxQ (sz : Nat) (x i : AV) : Option AV := match asNatQ i with
  | none => none
  | some j => match x with
    | .ro rows => match nthQ rows j with
      | some row => ifB (Nat.beq (lenQ row) sz) (some (.rptr row 0)) none
      | none => none
    | .sl id i0 n z _ => ifB (Nat.ble (Nat.succ j) n) (ifB (Nat.beq z sz) (some (.ptr id (i0 + j) 0)) none) none
    | _ => none
theorem idxQ_eq (sz : Nat) (x i : AV) : idxQ sz x i = idxA sz x i := by
  unfold idxQ idxA
  rw [asNatQ_eq]
  cases asNat i with
  | none => rfl
  | some j =>
    cases x <;> simp only [nthQ_eq, ifB_beq, ifB_ble, lenQ_eq, ite_and'] <;> rfl
def idxsQ (s i : AV) : Option AV := match s with
  | .str l => match asNatQ i with
    | some j => match nthQ l j with
      | some b => some (.int .u8 b.toNat)
      | none => none
    | none => none
  | _ => none
def forceL (l : List α) (k : List α → β) : β := @List.rec α (fun _ => β) (k []) (fun x r _ => k (x :: r)) l
theorem forceL_eq (l : List α) (k : List α → β) : forceL l k = k l := by cases l <;> rfl
def lenAQ (st : Bool) (x : AV) : Option AV := match st with
  | true => match x with
    | .str l => some (.int .i64 (.ofNat (lenQ l)))
    | x => lenA true x
  | false => lenA false x
theorem lenAQ_eq (st : Bool) (x : AV) : lenAQ st x = lenA st x := by
  unfold lenAQ
  cases st with
  | false => rfl
  | true => cases x with
    | str l => dsimp only; rw [lenQ_eq]; rfl
    | _ => rfl
def loQ (lo : Option AV) : Option Nat := match lo with
  | none => some 0
  | some o => asNatQ o
def cutsQ (x : AV) (lo hi : Option AV) : Option AV := match x with
  | .str l => match loQ lo with
    | some a => match hi with
      | none => ifB (Nat.ble a (lenQ l)) (forceL (dropR a l) (fun l => some (AV.str l))) none
      | some o => match asNatQ o with
        | some b => ifB (Nat.ble a b) (ifB (Nat.ble b (lenQ l)) (normL (dropR a (takeR b l)) (fun l => some (AV.str l))) none) none
        | none => none
    | none => none
  | _ => none
theorem loQ_eq (F : Fr) (lo : Option Opd) : loQ (lo.map (·.ev F)) = bound F 0 lo := by
  cases lo with
  | none => rfl
  | some o => exact asNatQ_eq _
theorem cutsQ_eq (F : Fr) (x : Opd) (lo hi : Option Opd) : cutsQ (x.ev F) (lo.map (·.ev F)) (hi.map (·.ev F)) = POp.ev F (.cuts x lo hi) := by
  show _ = (match x.ev F, bound F 0 lo with
    | AV.str l, some a => match bound F l.length hi with
      | some b => if a ≤ b ∧ b ≤ l.length then some (AV.str ((l.take b).drop a)) else none
      | none => none
    | _, _ => none)
  unfold cutsQ
  rw [loQ_eq]
  cases x.ev F with
  | str l =>
    dsimp only
    cases bound F 0 lo with
    | none => rfl
    | some a =>
      cases hi with
      | none =>
        simp only [Option.map_none, forceL_eq, ifB_ble, lenQ_eq, dropR_eq]
        show _ = if a ≤ l.length ∧ l.length ≤ l.length then some (AV.str ((l.take l.length).drop a)) else none
        simp
      | some o =>
        simp only [Option.map_some, asNatQ_eq]
        show _ = (match asNat (o.ev F) with
          | some b => if a ≤ b ∧ b ≤ l.length then some (AV.str ((l.take b).drop a)) else none
          | none => none)
        cases asNat (o.ev F) with
        | none => rfl
        | some b => simp only [normL_eq, ifB_ble, lenQ_eq, dropR_eq, takeR_eq, ite_and']
  | _ => rfl
def freezeQ (h : Heap) (lo : Nat) (v : AV) : Option AV := match v with
  | .bool b => some (.bool b)
  | .int k n => some (.int k n)
  | v => freeze h lo 30 v
theorem freezeQ_eq (h : Heap) (lo : Nat) (v : AV) : freezeQ h lo v = freeze h lo 30 v := by
  unfold freezeQ
  split <;> rfl
def takeQ (ag : Bool) (sz k : Nat) (row : List AV) : Option AV := match ag with
  | true => ifB (Nat.ble (Nat.add k sz) (lenQ row)) (normL (takeR sz (dropR k row)) (fun l => some (.agg l))) none
  | false => nthR row k
theorem takeQ_eq (ag : Bool) (sz k : Nat) (row : List AV) : takeQ ag sz k row = takeRow ag sz k row := by
  unfold takeQ takeRow
  cases ag <;> simp only [nthR_eq, normL_eq, ifB_ble, lenQ_eq, takeR_eq, dropR_eq] <;> rfl
def extrQ (x : AV) (i : Nat) : Option AV := match x with
  | .tup vs => nthR vs i
  | _ => none
def partQ (ag : Bool) (off sz : Nat) (x : AV) : Option AV := match x with
  | .agg cs => takeQ ag sz off cs
  | _ => none
def strN (o : Option AV) : Option AV := match o with
  | some (.str l) => normL l (fun l => some (.str l))
  | some (.ro l) => normL l (fun l => some (.ro l))
  | o => o
theorem strN_eq (o : Option AV) : strN o = o := by
  unfold strN
  split <;> simp only [normL_eq]
def loadQ (ag : Bool) (sz : Nat) (a : AV) (h : Heap) : Option AV := match a with
  | .ptr id i k => match h id with
    | some (.rows rs) => match nthQ rs i with
      | some row => takeQ ag sz k row
      | none => none
    | _ => none
  | .rptr row k => takeQ ag sz k row
  | _ => none
def appQ (aid sz bytes : Nat) (a x : AV) (s : AS) : Option (AV × AS) := onS s fun h n0 lim =>
    match rowsOf h x with
    | none => none
    | some new => ifB (allR (fun r => ifB (Nat.beq (lenQ r) sz) (scalsQ r) false) new)
      (match a with
      | .nils => ifB (Nat.beq (lenQ new) 0) (some (.nils, s)) (ifB (Nat.ble (Nat.mul (lenQ new) bytes) 140737488355328) (ifB (Nat.ble (lenQ new) 9223372036854775807) (forceN (lenQ new) fun m => normL new (fun new => some (.sl aid 0 m sz false, ⟨h.upd aid (some (.rows new)), n0, lim⟩))) none) none)
      | .emp => ifB (Nat.beq (lenQ new) 0) (some (.emp, s)) (ifB (Nat.ble (Nat.mul (lenQ new) bytes) 140737488355328) (ifB (Nat.ble (lenQ new) 9223372036854775807) (forceN (lenQ new) fun m => normL new (fun new => some (.sl aid 0 m sz false, ⟨h.upd aid (some (.rows new)), n0, lim⟩))) none) none)
      | .sl id i n z t =>
        match h id with
        | some (.rows rs) =>
          ifB (Nat.beq i 0) (ifB (Nat.ble n (lenQ rs)) (ifB (Nat.ble lim id) (ifB (Nat.ble (Nat.mul (Nat.add n (lenQ new)) bytes) 140737488355328) (ifB (Nat.ble (Nat.add n (lenQ new)) 9223372036854775807) (ifB t none (ifB (Nat.beq z sz)
            (forceN (Nat.add n (lenQ new)) fun m => ifB (Nat.ble m (lenQ rs)) (normL (catR (catR (takeR n rs) new) (dropR m rs)) (fun r => some (.sl id 0 m sz false, ⟨h.upd id (some (.rows r)), n0, lim⟩)))
              (normL (catR (takeR n rs) new) (fun r => some (.sl aid 0 m sz false, ⟨(h.upd id none).upd aid (some (.rows r)), n0, lim⟩))))
            none)) none) none) none) none) none
        | _ => none
      | _ => none) none
theorem ifB_same (f : List AV → Nat) (sz : Nat) (g : List AV → Bool) (l : List (List AV)) : allR (fun r => ifB (Nat.beq (f r) sz) (g r) false) l = l.all (fun r => f r == sz && g r) := by
  rw [allR_eq]
  congr 1
  funext r
  rw [ifB_beq]
  by_cases h : f r = sz <;> simp [h]
theorem appQ_eq (call : Nat → List AV → M AV) (F : Fr) (aid sz bytes : Nat) (a x : Opd) (s : AS) : appQ aid sz bytes (a.ev F) (x.ev F) s = EOp.ev call F aid (.append sz bytes a x) s := by
  obtain ⟨h, n0, lim⟩ := s
  unfold appQ EOp.ev
  rw [onS_eq]
  dsimp only
  cases rowsOf h (x.ev F) with
  | none => rfl
  | some new =>
    dsimp only
    rw [ifB_same, ifB_true]
    have e1 : (new.all fun r => lenQ r == sz && scalsQ r) = (new.all fun r => r.length == sz && scals r) := by
      congr 1; funext r; rw [lenQ_eq, scalsQ_eq]
    rw [e1]
    congr 1
    cases a.ev F with
    | nils => simp only [ifB_beq, ifB_ble, lenQ_eq, forceN_eq, normL_eq, ite_and']; rfl
    | emp => simp only [ifB_beq, ifB_ble, lenQ_eq, forceN_eq, normL_eq, ite_and']; rfl
    | sl id i n z t =>
      dsimp only
      cases h id with
      | none => rfl
      | some b => cases b with
        | rows rs =>
          have ht : ∀ (p q : Option (AV × AS)), ifB t p q = if t = false then q else p := fun p q => by rw [ifB_eq]; cases t <;> rfl
          simp only [ifB_beq, ifB_ble, Nat.ble_eq, ht, lenQ_eq, forceN_eq, normL_eq, ite_and', catR_eq, takeR_eq, dropR_eq]
          rfl
        | _ => rfl
    | _ => rfl
/-- One place of a list is written; most are of one place. -/
def setQ (l : List α) (i : Nat) (r : α) : List α := @List.rec α (fun _ => List α) (l.set i r) (fun _ q _ => @List.rec α (fun _ => List α) (@Nat.rec (fun _ => List α) [r] (fun _ _ => l.set i r) i) (fun _ _ _ => l.set i r) q) l
theorem setQ_eq (l : List α) (i : Nat) (r : α) : setQ l i r = l.set i r := by
  rcases l with _ | ⟨x, _ | ⟨y, q⟩⟩
  · rfl
  · cases i <;> rfl
  · rfl
def storeQ (a v : AV) (sz : Nat) (s : AS) : Option (AV × AS) := onS s fun h n lim => match a with
  | .ptr id i k => match h id with
    | some (.rows rs) => match nthQ rs i with
      | some row => normL v.cells fun cs => ifB (Nat.beq (lenQ cs) sz) (ifB (Nat.ble (Nat.add k sz) (lenQ row)) (ifB (scalsQ cs) (ifB (Nat.ble lim id)
          (normL (catR (catR (takeR k row) cs) (dropR (Nat.add k (lenQ cs)) row)) fun r => some (.tup [], ⟨h.upd id (some (.rows (setQ rs i r))), n, lim⟩)) none) none) none) none
      | none => none
    | _ => none
  | _ => none
theorem storeQ_eq (call : Nat → List AV → M AV) (F : Fr) (aid sz : Nat) (a v : Opd) (s : AS) : storeQ (a.ev F) (v.ev F) sz s = EOp.ev call F aid (.store a v sz) s := by
  obtain ⟨h, n, lim⟩ := s
  unfold storeQ EOp.ev
  rw [onS_eq]
  dsimp only
  cases a.ev F with
  | ptr id i k =>
    dsimp only
    cases h id with
    | none => rfl
    | some b => cases b with
      | rows rs =>
        dsimp only
        rw [nthQ_eq]
        cases rs[i]? with
        | none => rfl
        | some row =>
          simp only [normL_eq, ifB_beq, ifB_ble, lenQ_eq, scalsQ_eq, catR_eq, takeR_eq, dropR_eq, setQ_eq, ite_and', setCells]
          simp only [ifB_true, Nat.ble_eq]
          rfl
      | _ => rfl
  | _ => rfl
def newQ (aid : Nat) (o : Option (Blk × AV)) (s : AS) : Option (AV × AS) := onS s fun h n lim => match h aid with
  | none => match o with
    | some (b, v) => some (v, ⟨h.upd aid (some b), n, lim⟩)
    | none => none
  | some _ => none
theorem newQ_eq (call : Nat → List AV → M AV) (F : Fr) (aid : Nat) (o : LOp) (s : AS) : newQ aid (o.ev F aid) s = AOp.ev call F aid (.l o) s := by
  obtain ⟨h, n, lim⟩ := s
  unfold newQ AOp.ev
  rw [onS_eq]
  dsimp only
  cases h aid <;> cases o.ev F aid <;> rfl
def quietQ (call : Nat → List AV → M AV) (f : Nat) (args : List AV) (s : AS) : Option (AV × AS) := onS s fun h n lim =>
  match call f args ⟨h, n, n⟩ with
  | some (v, s') => match freezeQ s'.h n v with
    | some v' => some (v', ⟨h, s'.n, lim⟩)
    | none => none
  | none => none
theorem quietQ_eq (call : Nat → List AV → M AV) (f : Nat) (args : List AV) (s : AS) : quietQ call f args s = quiet call f args s := by
  unfold quietQ quiet
  rw [onS_eq]
  simp only [freezeQ_eq]
  rfl
def callQ (call : Nat → List AV → M AV) (q : Bool) (f : Nat) (args : List AV) (s : AS) : Option (AV × AS) := @Bool.rec (fun _ => Option (AV × AS)) (call f args s) (quietQ call f args s) q
theorem callQ_eq (call : Nat → List AV → M AV) (q : Bool) (f : Nat) (args : List AV) (s : AS) : callQ call q f args s = if q then quiet call f args s else call f args s := by
  cases q with
  | false => rfl
  | true => exact quietQ_eq call f args s
def callvQ (call : Nat → List AV → M AV) (q : Bool) (f : AV) (args : List AV) (s : AS) : Option (AV × AS) := match f with
  | .fn g caps => callQ call q g (args ++ caps) s
  | _ => none

def POp.evQ (F : Fr) (o : POp) : Option AV := match o with
  | .bin op x y => binQ op (x.ev F) (y.ev F)
  | .part ag off sz x => partQ ag off sz (x.ev F)
  | .idx sz x i => idxQ sz (x.ev F) (i.ev F)
  | .idxs s i => idxsQ (s.ev F) (i.ev F)
  | .cuts x lo hi => cutsQ (x.ev F) (lo.map (·.ev F)) (hi.map (·.ev F))
  | .lenS st x => lenAQ st (x.ev F)
  | .cut sz x lo hi mx => strN (POp.ev F (.cut sz x lo hi mx))
  | .extract x i => extrQ (x.ev F) i
  | o => o.ev F
theorem POp.evQ_eq (F : Fr) (o : POp) : o.evQ F = o.ev F := by
  unfold POp.evQ
  split
  · exact binQ_eq _ _ _
  · rename_i ag off sz x
    show partQ ag off sz (x.ev F) = (match x.ev F with
      | .agg cs => partA ag off sz cs
      | _ => none)
    unfold partQ
    cases x.ev F <;> try rfl
    exact takeQ_eq _ _ _ _
  · exact idxQ_eq _ _ _
  · rename_i s i
    show idxsQ (s.ev F) (i.ev F) = (match s.ev F, asNat (i.ev F) with
      | .str l, some j => match l[j]? with
        | some b => some (.int .u8 b.toNat)
        | none => none
      | _, _ => none)
    unfold idxsQ
    rw [asNatQ_eq]
    cases s.ev F <;> cases asNat (i.ev F) <;> simp only [nthQ_eq] <;> rfl
  · exact cutsQ_eq F _ _ _
  · exact lenAQ_eq _ _
  · exact strN_eq _
  · rename_i x i
    show extrQ (x.ev F) i = (match x.ev F with
      | .tup vs => vs[i]?
      | _ => none)
    unfold extrQ
    cases x.ev F <;> simp only [nthR_eq]
  · rfl
def ROp.evQ (F : Fr) (h : Heap) (o : ROp) : Option AV := match o with
  | .load ag sz a => loadQ ag sz (a.ev F) h
  | o => o.ev F h
theorem ROp.evQ_eq (F : Fr) (h : Heap) (o : ROp) : o.evQ F h = o.ev F h := by
  unfold ROp.evQ
  split
  · rename_i ag sz a
    show loadQ ag sz (a.ev F) h = (match a.ev F with
      | .ptr id i k => match h id with
        | some (.rows rs) => match rs[i]? with
          | some row => takeRow ag sz k row
          | none => none
        | _ => none
      | .rptr row k => takeRow ag sz k row
      | _ => none)
    unfold loadQ
    simp only [nthQ_eq, takeQ_eq]
  · rfl
def EOp.evQ (call : Nat → List AV → M AV) (F : Fr) (aid : Nat) (o : EOp) (s : AS) : Option (AV × AS) := match o with
  | .append sz bytes a x => appQ aid sz bytes (a.ev F) (x.ev F) s
  | .store a v sz => storeQ (a.ev F) (v.ev F) sz s
  | .call q f args => callQ call q f (args.map (·.ev F)) s
  | .callv q f args => callvQ call q (f.ev F) (args.map (·.ev F)) s
  | o => o.ev call F aid s
theorem EOp.evQ_eq (call : Nat → List AV → M AV) (F : Fr) (aid : Nat) (o : EOp) (s : AS) : o.evQ call F aid s = o.ev call F aid s := by
  unfold EOp.evQ
  split
  · exact appQ_eq call F aid _ _ _ _ s
  · exact storeQ_eq call F aid _ _ _ s
  · exact callQ_eq _ _ _ _ _
  · rename_i q f args
    show callvQ call q (f.ev F) (args.map (·.ev F)) s = (match f.ev F with
      | .fn g caps => if q then quiet call g (args.map (·.ev F) ++ caps) s else call g (args.map (·.ev F) ++ caps) s
      | _ => none)
    unfold callvQ
    cases f.ev F <;> try rfl
    exact callQ_eq _ _ _ _ _
  · rfl
end

/-- A guard is asked first. -/
def gd (w : Option Bool) (f : AS → Option (AV × AS)) (s : AS) : Option (AV × AS) :=
  match w with
  | some true => f s
  | some false => some (.tup [], s)
  | none => none
@[simp] theorem gd_true (f : AS → Option (AV × AS)) (s : AS) : gd (some true) f s = f s := rfl
@[simp] theorem gd_false (f : AS → Option (AV × AS)) (s : AS) : gd (some false) f s = some (.tup [], s) := rfl

def ckd (b : Heap → Heap → Bool) (f : AS → Option (AV × AS)) (s : AS) : Option (AV × AS) :=
  match f s with
  | some (v, s') => bif b s.h s'.h then some (v, s') else none
  | none => none
def ckl (F : Fr) (l : List (Option (Nat × Bool) × ROp)) (f : AS → Option (AV × AS)) (s : AS) : Option (AV × AS) :=
  match l with
  | [] => f s
  | c :: r => ckd (fun h h' => (c :: r).all (recheck F h h')) f s
noncomputable def opV (call : Nat → List AV → M AV) (F : Fr) (aid : Nat) (o : AOp) (s : AS) : Option (AV × AS) :=
  match o with
  | .p o => pureO (o.evQ F) s
  | .r o => pureO (o.evQ F s.h) s
  | .k o => pureO (o.ev F) s
  | .l o => newQ aid (o.ev F aid) s
  | .e o => o.evQ call F aid s
theorem opV_eq (call : Nat → List AV → M AV) (F : Fr) (aid : Nat) (o : AOp) (s : AS) : opV call F aid o s = o.ev call F aid s := by
  cases o with
  | p o => simp only [opV, POp.evQ_eq]; rfl
  | r o => simp only [opV, ROp.evQ_eq]; rfl
  | k o => rfl
  | l o => exact newQ_eq call F aid o s
  | e o => simp only [opV, EOp.evQ_eq]; rfl

noncomputable def AIns.val (call : Nat → List AV → M AV) (base : Nat) (i : AIns) (F : Fr) (s : AS) : Option (AV × AS) :=
  gd (i.wanted F) (fun s => ckl F i.ck (opV call F (base + i.ix) i.op) s) s

noncomputable def runOp1 (call : Nat → List AV → M AV) (base : Nat) (i : AIns) (F : Fr) (s : AS) (k : Fr → AS → Option R) : Option R :=
  match i.guard, i.ck, i.op with
  | none, [], .p (.mv x) => k (putD F i.dst (x.ev F)) s
  | none, [], .p o => bndP (o.evQ F) (fun v => k (putD F i.dst v) s)
  | none, [], .r o => bndP (o.evQ F s.h) (fun v => k (putD F i.dst v) s)
  | none, [], .k o => bndP (o.ev F) (fun v => k (putD F i.dst v) s)
  | _, _, _ => bndO (i.val call base F s) (fun v s' => k (putD F i.dst v) s')

noncomputable def runOpsC (call : Nat → List AV → M AV) (base : Nat) : List AIns → Fr → AS → (Fr → AS → Option R) → Option R
  | [], F, s, k => k F s
  | i :: r, F, s, k => runOp1 call base i F s (fun F' s' => runOpsC call base r F' s' k)

theorem ckl_eq (F : Fr) (l : List (Option (Nat × Bool) × ROp)) (f : AS → Option (AV × AS)) (s : AS) :
    ckl F l f s = match f s with
      | some (v, s') => if l.all (recheck F s.h s'.h) then some (v, s') else none
      | none => none := by
  cases l with
  | nil =>
    unfold ckl
    cases f s with
    | none => rfl
    | some p => rfl
  | cons c r =>
    unfold ckl ckd
    dsimp only
    cases f s with
    | none => rfl
    | some p =>
      dsimp only
      cases (c :: r).all (recheck F s.h p.2.h) <;> rfl

theorem val_step (call : Nat → List AV → M AV) (base : Nat) (i : AIns) (F : Fr) (s : AS) : i.step call base F s = (i.val call base F s).map (fun p => (putD F i.dst p.1, p.2)) := by
  unfold AIns.step AIns.val gd
  cases i.wanted F with
  | none => rfl
  | some b =>
    cases b with
    | false => rfl
    | true =>
      dsimp only
      rw [ckl_eq, opV_eq]
      cases AOp.ev call F (base + i.ix) i.op s with
      | none => rfl
      | some p =>
        dsimp only
        cases i.ck.all (recheck F s.h p.2.h) <;> rfl

theorem pureO_bnd (o : Option AV) (s : AS) (k : AV → AS → Option R) : bndO (pureO o s) k = bndP o (fun v => k v s) := by
  cases o with
  | none => rfl
  | some v => simp

theorem runOp1_eq (call : Nat → List AV → M AV) (base : Nat) (i : AIns) (F : Fr) (s : AS) (k : Fr → AS → Option R) :
    runOp1 call base i F s k = bndO (i.val call base F s) (fun v s' => k (putD F i.dst v) s') := by
  obtain ⟨ix, dst, g, op, ck⟩ := i
  unfold runOp1
  dsimp only
  split
  · rw [show AIns.val call base (AIns.mk ix dst none (.p (.mv _)) []) F s = pureO (some _) s from rfl]
    simp
  · rename_i o _
    rw [show AIns.val call base (AIns.mk ix dst none (.p o) []) F s = pureO (o.evQ F) s from rfl, pureO_bnd]
  · rename_i o
    rw [show AIns.val call base (AIns.mk ix dst none (.r o) []) F s = pureO (o.evQ F s.h) s from rfl, pureO_bnd]
  · rename_i o
    rw [show AIns.val call base (AIns.mk ix dst none (.k o) []) F s = pureO (o.ev F) s from rfl, pureO_bnd]
  · rfl

theorem runOpsC_eq (call : Nat → List AV → M AV) (base : Nat) : ∀ (l : List AIns) (F : Fr) (s : AS) (k : Fr → AS → Option R),
    runOpsC call base l F s k = (runOps call base l F s).bind (fun p => k p.1 p.2)
  | [], F, s, k => rfl
  | i :: r, F, s, k => by
    unfold runOpsC runOps
    rw [runOp1_eq, bndO_eq, val_step]
    cases i.val call base F s with
    | none => rfl
    | some p =>
      simp only [Option.bind_some, Option.map_some]
      exact runOpsC_eq call base r _ _ k

def loopC (body : Fr → AS → (Ex → Fr → AS → Option R) → Option R) : Nat → Fr → AS → (Ex → Fr → AS → Option R) → Option R
  | 0, _, _, _ => none
  | n + 1, F, s, k => body F s (fun e F' s' => match e with
    | .norm => loopC body n F' s' k
    | e => k e F' s')

noncomputable def acodeC (call : Nat → List AV → M AV) (fuel : Nat) : AC → Fr → AS → (Ex → Fr → AS → Option R) → Option R
  | .skip, F, s, k => k .norm F s
  | .ops l n keep, F, s, k => forceN (s.n + n) (fun m => runOpsC call s.n l F { s with n := m } (fun F' s' => k .norm (forget F' keep) s'))
  | .seq a b, F, s, k => acodeC call fuel a F s (fun e F' s' => match e with
    | .norm => acodeC call fuel b F' s' k
    | e => k e F' s')
  | .cond c a b, F, s, k => match c.ev F with
    | .bool true => acodeC call fuel a F s k
    | .bool false => acodeC call fuel b F s k
    | _ => none
  | .block id a, F, s, k => acodeC call fuel a F s (fun e F' s' => match e with
    | .exit j => k (bif Nat.beq j id then .norm else .exit j) F' s'
    | e => k e F' s')
  | .loop a, F, s, k => loopC (acodeC call fuel a) fuel F s k
  | .exit id, F, s, k => k (.exit id) F s
  | .ret, F, s, k => k .ret F s

theorem loopC_eq (body : Fr → AS → (Ex → Fr → AS → Option R) → Option R) (b : Fr → M (Ex × Fr))
    (hb : ∀ F s k, body F s k = (b F s).bind (fun p => k p.1.1 p.1.2 p.2)) : ∀ (n : Nat) (F : Fr) (s : AS) (k : Ex → Fr → AS → Option R),
    loopC body n F s k = (loopF b n F s).bind (fun p => k p.1.1 p.1.2 p.2)
  | 0, F, s, k => rfl
  | n + 1, F, s, k => by
    unfold loopC loopF
    rw [hb]
    cases b F s with
    | none => rfl
    | some p =>
      obtain ⟨⟨e, F'⟩, s'⟩ := p
      cases e with
      | norm => exact loopC_eq body b hb n F' s' k
      | exit j => rfl
      | ret => rfl

theorem acodeC_eq (call : Nat → List AV → M AV) (fuel : Nat) : ∀ (c : AC) (F : Fr) (s : AS) (k : Ex → Fr → AS → Option R),
    acodeC call fuel c F s k = (acode call fuel c F s).bind (fun p => k p.1.1 p.1.2 p.2)
  | .skip, F, s, k => rfl
  | .ops l n keep, F, s, k => by
    unfold acodeC acode
    rw [forceN_eq, runOpsC_eq]
    cases runOps call s.n l F { s with n := s.n + n } with
    | none => rfl
    | some p => rfl
  | .seq a b, F, s, k => by
    unfold acodeC acode
    rw [acodeC_eq call fuel a]
    cases acode call fuel a F s with
    | none => rfl
    | some p =>
      obtain ⟨⟨e, F'⟩, s'⟩ := p
      cases e with
      | norm => exact acodeC_eq call fuel b F' s' k
      | exit j => rfl
      | ret => rfl
  | .cond c a b, F, s, k => by
    unfold acodeC acode
    cases c.ev F with
    | bool v => cases v with
      | true => exact acodeC_eq call fuel a F s k
      | false => exact acodeC_eq call fuel b F s k
    | _ => rfl
  | .block id a, F, s, k => by
    unfold acodeC acode
    rw [acodeC_eq call fuel a]
    cases acode call fuel a F s with
    | none => rfl
    | some p =>
      obtain ⟨⟨e, F'⟩, s'⟩ := p
      cases e <;> rfl
  | .loop a, F, s, k => by
    unfold acodeC acode
    exact loopC_eq _ _ (fun F s k => acodeC_eq call fuel a F s k) fuel F s k
  | .exit id, F, s, k => rfl
  | .ret, F, s, k => rfl

/-- What a call gives behind its code. -/
def fin (A : AFn) (e : Ex) (F : Fr) (s : AS) : Option (AV × AS) :=
  match e with
  | .exit _ => none
  | _ => match resAll F s.h A.res with
    | some vs => some (shut vs, s)
    | none => none
noncomputable def afn (call : Nat → List AV → M AV) (k : Nat) (A : AFn) (args : List AV) (s : AS) : Option (AV × AS) :=
  bif Nat.beq args.length A.nargs then acodeC call k A.code (args ++ List.replicate (A.ntmps - A.nargs) (.tup [])) s (fin A) else none

theorem acall_afn (fns : Nat → Option AFn) (G : Nat → List AV → M AV) (k f : Nat) (args : List AV) (s : AS) :
    acall fns G (k + 1) f args s = match G f args s with
      | some r => some r
      | none => match fns f with
        | none => none
        | some A => afn (acall fns G k) k A args s := by
  conv => lhs; unfold acall
  cases G f args s with
  | some v => rfl
  | none =>
    dsimp only
    cases fns f with
    | none => rfl
    | some A =>
      dsimp only
      unfold afn
      by_cases h : args.length = A.nargs
      · have h2 : Nat.beq args.length A.nargs = true := by rw [h]; exact Nat.beq_refl _
        rw [if_pos h, h2, cond_true, acodeC_eq]
        cases acode (acall fns G k) k A.code (args ++ List.replicate (A.ntmps - A.nargs) (.tup [])) s with
        | none => rfl
        | some p =>
          obtain ⟨⟨e, F'⟩, s'⟩ := p
          cases e <;> rfl
      · have h2 : Nat.beq args.length A.nargs = false := by
          cases hb : Nat.beq args.length A.nargs with
          | false => rfl
          | true => exact absurd (Nat.eq_of_beq_eq_true hb) h
        rw [if_neg h, h2, cond_false]

end
end Go.Proofs.Ytgcciohenncplaa.Ai

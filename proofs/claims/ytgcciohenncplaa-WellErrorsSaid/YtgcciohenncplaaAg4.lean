/- Functions that are known otherwise: the Builder's WriteString. -/
import Derived.Test.YtgcciohenncplaaAg3
import Derived.Lib.FrozenHead
namespace Go.Proofs.Ytgcciohenncplaa.Ai
noncomputable section
open Go.RowKit

theorem wpList_append_run {P : Program} {ops : Array Oper} {rest : List Oper} {o : Oper} {a : Act} {Q : Exit → Act → World → Prop} (hgd : o.guard = none) (sl x : Operand) (t u : TypeId)
    (ho : o.op = .call { callee := .builtin .append, args := #[sl, x], argTypes := #[t, u] }) (w : World) (v y v' : Value) (w' : World) (hs : a.eval sl = v) (hx : a.eval x = y)
    (hr : (Builtin.append_ #[t, u] o.type #[v, y]).run P w = .ok v' w') (h : wpList P ops Q rest (a.put o.dst v') w') : wpList P ops Q (o :: rest) a w := by
  refine wpList_plain hgd fun K hK => ?_
  unfold Oper.wp execOp
  simp only [ho, resolve, invoke, builtin, Sem.run_bind, Sem.run_pure, Result.andThen_ok, List.map_toArray, List.map_cons, List.map_nil, hs, hx, hr]
  exact hK _ _ h

set_option maxHeartbeats 2000000 in
set_option maxRecDepth 100000 in
theorem write_calls (b : Nat) (t : ByteArray) (w0 : World) (Q Post : World → Prop)
    (hcc : Calls Try.prog 80 #[.pointer (some ⟨b, 0, none⟩)] w0 fun e w' => e = .returned (.tuple #[]) ∧ Q w')
    (hq : ∀ w, Q w → ∃ v a n c w1, w.cell? ⟨b, 1, none⟩ = some v ∧ (Builtin.append_ #[64, 9] 64 #[v, .string t]).run Try.prog w = .ok (.slice a n c) w1 ∧ w1.cell? ⟨b, 1, none⟩ = some v ∧ w1.frozen? ⟨b, 1, none⟩ = false ∧ Post (w1.setCell ⟨b, 1, none⟩ (.slice a n c))) :
    Calls Try.prog 50 #[.pointer (some ⟨b, 0, none⟩), .string t] w0 fun e w' => e = .returned (.tuple #[.int .i64 t.size, .nilIface]) ∧ Post w' := by
  have e80 : ∀ args w, (callFunc 80 args).run Try.prog w = .ok (.enter 80 args) w := enters_of Try.func80 (by kernel_rfl) rfl
  go_enter Try.func50, Try.ntmps50
  go_wp2_with (go_at_fn 80; refine hcc.mono ?_)
  rintro e w1 ⟨rfl, hq1⟩
  obtain ⟨v, a, n, c, w2, c1, happ, d1, f1, hpost⟩ := hq _ hq1
  go_wp2_with (at_builtin; refine wpList_append_run rfl _ _ _ _ rfl _ _ _ _ _ rfl rfl happ ?_)
  go_wp2
  go_ret2
  exact ⟨rfl, hpost⟩

/-- Bytes as cells. -/
def u8s (l : List UInt8) : List Value := l.map fun x => .int .u8 x.toNat

theorem u8s_len (l : List UInt8) : (u8s l).length = l.length := by simp [u8s]
theorem u8s_app (l m : List UInt8) : u8s (l ++ m) = u8s l ++ u8s m := by simp [u8s]
theorem u8s_get {l : List UInt8} {j : Nat} {x : UInt8} (h : l[j]? = some x) : (u8s l)[j]? = some (.int .u8 x.toNat) := by simp [u8s, h]
theorem u8s_bytes (t : ByteArray) : Go.byteCells t = u8s t.data.toList := rfl

theorem infoU : ∃ i z, Try.prog.info? uT = some i ∧ i.zero = some z ∧ i.size = 1 ∧ i.bytes = 1 ∧ z.cells.size = 1 := by
  have h : (Try.prog.info? uT).map (fun i => (i.size, i.bytes, i.zero.map fun z => z.cells.size)) = some (1, 1, some 1) := by kernel_rfl
  obtain ⟨i, hi, h2⟩ := Option.map_eq_some_iff.1 h
  simp only [Prod.mk.injEq] at h2
  obtain ⟨z, hz, h3⟩ := Option.map_eq_some_iff.1 h2.2.2
  exact ⟨i, z, hi, hz, h2.1, h2.2.1, h3⟩

section
variable {N : Nat} {ρ : Env} {s : AS} {w : World}

theorem OkW.bump (h : OkW N ρ s w) : OkW N ρ { s with n := s.n + 1 } w := ⟨h.own, h.inj, h.imm, h.sep, fun id hid => h.new id (by have : s.n + 1 ≤ id := hid; omega), h.size⟩

/-- A new buffer. -/
theorem buf_new (hw : OkW N ρ s w) (l : List UInt8) {z : Array Value} (hz : z.size = 1) {cap : Nat} (hcap : l.length ≤ cap) :
    ∃ ρ', Done Try.prog N ρ w (.sl s.n 0 l.length 1 false) { s with n := s.n + 1, h := s.h.upd s.n (some (.buf l)) } (fun id => id = s.n) (.slice (some ⟨w.heap.size, 0, none⟩) l.length cap)
      (w.drew.alloc (.cells ((u8s l).toArray ++ Builtin.zeroCells z (cap - l.length)) uT)) ρ' := by
  let L : Loc := ⟨w.heap.size, 1, cap⟩
  have hnew : ρ.loc s.n = none := hw.new s.n (Nat.le_refl _)
  have hx := Env.put_ext (L := L) hnew
  have hw' : OkW N ρ { s with n := s.n + 1 } w.drew := hw.bump.heap rfl
  refine ⟨ρ.put s.n L, hx, ?_, ?_, ((Below.refl _ _).drew).alloc hw.size _, fun id hid => Env.put_ne hid⟩
  · have := Rel.sl (ρ := ρ.put s.n L) (id := s.n) (i := 0) (n := l.length) (rc := cap) (t := false) (L := L) Env.put_self hcap (fun q => by cases q) (fun _ => by simp [L])
    simpa using this
  · refine new_ok (L := L) hw' (aid := s.n) (Nat.lt_succ_self _) hnew rfl ⟨_, _, heap_last w.drew _, rfl, ?_, hcap, Nat.zero_le _, fun j x hj => ?_⟩
    · show _ = cap
      rw [Array.size_append, size_zeroCells, hz]
      simp [u8s_len]; omega
    · have hlt := (List.getElem?_eq_some_iff.1 hj).1
      rw [Array.toList_append, List.getElem?_append_left (by simp [u8s_len]; exact hlt)]
      exact u8s_get hj

/-- A Builder's buffer, and its bytes. -/
def BufIs (s : AS) (y : AV) (l : List UInt8) : Prop := (y = .nils ∧ l = []) ∨ ∃ id, y = .sl id 0 l.length 1 false ∧ s.h id = some (.buf l)

theorem rel_sl {id n zz : Nat} {Y : Value} (h : Rel ρ (.sl id 0 n zz false) Y) : ∃ L rc, ρ.loc id = some L ∧ zz = L.s ∧ n ≤ rc ∧ 0 + rc = L.cap ∧ Y = .slice (some ⟨L.b, 0 * L.s, none⟩) n rc := by
  cases h with
  | sl hL hn ht hf => exact ⟨_, _, hL, rfl, hn, hf rfl, rfl⟩

def bufPut (s : AS) (y : AV) (l t : List UInt8) : AV × AS :=
  match y with
  | .sl id _ _ _ _ => (.sl s.n 0 (l ++ t).length 1 false, { s with n := s.n + 1, h := (s.h.upd id none).upd s.n (some (.buf (l ++ t))) })
  | _ => match t with
    | [] => (.nils, s)
    | _ => (.sl s.n 0 t.length 1 false, { s with n := s.n + 1, h := s.h.upd s.n (some (.buf t)) })

theorem append_buf (hw : OkW N ρ s w) {y : AV} {Y : Value} (hy : Rel ρ y Y) {l : List UInt8} (hb : BufIs s y l) (t : ByteArray) (hle : l.length + t.size ≤ 140737488355328) :
    ∃ a n c w' ρ', (Builtin.append_ #[64, 9] 64 #[Y, .string t]).run Try.prog w = .ok (.slice a n c) w' ∧ Done Try.prog N ρ w (bufPut s y l t.data.toList).1 (bufPut s y l t.data.toList).2 (fun id => id = s.n) (.slice a n c) w' ρ' ∧
      ∀ k, k < w.heap.size → (∀ i2 a b c d M, y = .sl i2 a b c d → ρ.loc i2 = some M → k ≠ M.b) → w'.heap[k]? = w.heap[k]? := by
  obtain ⟨i, z, hi, hz, his, hib, hzs⟩ := infoU
  have hu : Try.prog.underlying 64 = some (.slice uT) := by kernel_rfl
  have hk : Try.prog.underlying 9 = some .string := by kernel_rfl
  have hS := Go.Src.ofString (P := Try.prog) w hk t
  rw [← his] at hS
  have hsz : t.size = t.data.toList.length := rfl
  rcases hb with ⟨rfl, rfl⟩ | ⟨id, rfl, hid⟩
  · cases hy
    cases ht : t.data.toList with
    | nil =>
      have h0 : t.size = 0 := by rw [hsz, ht]; rfl
      rw [h0] at hS
      exact ⟨none, 0, 0, w, ρ, append_none_run hu hi hS, ⟨Ext.refl _, .nils, hw, Below.refl _ _, fun _ _ => rfl⟩, fun _ _ _ => rfl⟩
    | cons x r =>
      have hn0 : t.size ≠ 0 := by rw [hsz, ht]; simp
      have hr := Go.run_append_grow_src w 64 9 64 uT i z hu hi hz none 0 0 [] (run_firstCells_none (P := Try.prog) w.drew i.size 0 0 0) (.string t) t.size (Go.byteCells t) hS (by omega) (by omega) (growslice_fits (by omega) (by rw [hib, Nat.zero_add]; simpa using hle))
      obtain ⟨ρ', hd⟩ := buf_new hw t.data.toList hzs (cap := grownCap w (0 + t.size) 0 uT) (by have := grownCap_ge w (0 + t.size) 0 uT; rw [← hsz]; omega)
      rw [ht] at hd
      refine ⟨_, _, _, _, ρ', ?_, hd, fun k hk _ => Below.heap_alloc w.drew _ k hk⟩
      rw [hr, u8s_bytes, ht, hsz, ht]
      simp
  · obtain ⟨L, rc, hL, _, hn, hrc, rfl⟩ := rel_sl hy
    obtain ⟨L', hL', hNL, hLlt, c, fz, q1, q2, q3, q4, q5, q6⟩ := hw.own id _ hid
    rw [hL] at hL'; cases hL'
    have hne : s.h id ≠ none := by rw [hid]; simp
    have hnew : ρ.loc s.n = none := hw.new s.n (Nat.le_refl _)
    rw [Nat.zero_add] at hrc
    rw [Nat.zero_mul]
    have htake : c.toList.take l.length = u8s l := by
      apply List.ext_getElem?
      intro j
      rw [List.getElem?_take]
      split
      · rename_i hj
        rw [q6 j _ (List.getElem?_eq_getElem hj), u8s_get (List.getElem?_eq_getElem hj)]
      · rename_i hj
        rw [List.getElem?_eq_none (by rw [u8s_len]; omega)]
    by_cases hroom : l.length + t.size ≤ rc
    · have hr := Lib.run_append_room_stringF (P := Try.prog) w 64 9 64 uT i hu hk hi his L.b l.length rc c fz q1 q5 t hroom (by omega)
      have hx := Env.put_ext (L := L) hnew
      have hcl : (c.toList.take l.length ++ Lib.strCells t ++ c.toList.drop (l.length + t.size)).length = L.cap := by
        simp only [List.length_append, List.length_take, List.length_drop, Array.length_toList, Lib.strCells_length]
        omega
      have hh := setRow_heap w L.b c (c.toList.take l.length ++ Lib.strCells t ++ c.toList.drop (l.length + t.size)).toArray uT fz q1
      refine ⟨_, _, _, _, ρ.put s.n L, hr, ⟨hx, ?_, move_ok hw.bump hne hL (Nat.lt_succ_self _) hnew (by simp) (fun k hk => setRow_other w L.b k _ hk) ⟨_, fz, hh, q2, by simpa using hcl, by simp; omega, by simp; omega, fun j x hj => ?_⟩, ⟨rfl, rfl, rfl, by simp, fun k hk => setRow_other w L.b k _ (by omega)⟩, fun id' hid' => Env.put_ne hid'⟩, fun k _ hk => setRow_other w L.b k _ (hk _ _ _ _ _ L rfl hL)⟩
      · have := Rel.sl (ρ := ρ.put s.n L) (id := s.n) (i := 0) (n := l.length + t.size) (rc := rc) (t := false) (L := L) Env.put_self hroom (fun q => by cases q) (fun _ => by omega)
        rw [q2] at this
        show Rel _ (.sl s.n 0 (l ++ t.data.toList).length 1 false) _
        rw [List.length_append, ← hsz]
        simpa using this
      · have hlt := (List.getElem?_eq_some_iff.1 hj).1
        rw [htake, show Lib.strCells t = u8s t.data.toList from rfl, ← u8s_app]
        rw [List.toList_toArray, List.getElem?_append_left (by rw [u8s_len]; exact hlt)]
        exact u8s_get hj
    · have holds : ∀ j u, (u8s l)[j]? = some u → w.cell? ((⟨L.b, 0, none⟩ : Addr).add j) = some u := by
        intro j u hu'
        have hlt : j < l.length := by have := (List.getElem?_eq_some_iff.1 hu').1; rwa [u8s_len] at this
        rw [u8s_get (List.getElem?_eq_getElem hlt)] at hu'
        cases hu'
        rw [add_addr, Nat.zero_add]
        have := q6 j _ (List.getElem?_eq_getElem hlt)
        simp only [World.cell?, q1]
        simpa using this
      have hfo := run_firstCells_some (P := Try.prog) w.drew i.size l.length ⟨L.b, 0, none⟩ l.length rc (u8s l) (by rw [his, u8s_len]; omega) (by simpa using holds)
      have hr := Go.run_append_grow_src w 64 9 64 uT i z hu hi hz (some ⟨L.b, 0, none⟩) l.length rc (u8s l) hfo (.string t) t.size (Go.byteCells t) hS (by omega) (by omega) (growslice_fits (by omega) (by rw [hib]; simpa using hle))
      have hll : (l ++ t.data.toList).length = l.length + t.size := by rw [List.length_append, ← hsz]
      obtain ⟨ρ', hd⟩ := buf_new (hw.kill id) (l ++ t.data.toList) hzs (cap := grownCap w (l.length + t.size) rc uT) (by rw [hll]; exact grownCap_ge ..)
      rw [hll] at hd
      refine ⟨some ⟨w.heap.size, 0, none⟩, l.length + t.size, grownCap w (l.length + t.size) rc uT, _, ρ', ?_, ⟨hd.1, ?_, hd.3, hd.4, hd.5⟩, fun k hk _ => Below.heap_alloc w.drew _ k hk⟩
      · rw [hr, u8s_bytes, ← u8s_app]
      · show Rel _ (.sl s.n 0 (l ++ t.data.toList).length 1 false) _
        rw [hll]; exact hd.2
end

/-- A text written behind what a Builder has. -/
def gPut (id : Nat) (t : List UInt8) : M AV := fun s =>
  match s.h id with
  | some (.rows [[.ptr id' 0 0, y]]) =>
    let put (l : List UInt8) : Option (AV × AS) :=
      if id' = id ∧ Nat.ble s.lim id = true ∧ id < s.n ∧ l.length + t.length ≤ 140737488355328 then
        let r := bufPut s y l t
        some (.tup [.int .i64 t.length, .top], { r.2 with h := r.2.h.upd id (some (.rows [[.ptr id 0 0, r.1]])) })
      else none
    match y with
    | .nils => put []
    | .sl i2 0 n 1 false => match s.h i2 with
      | some (.buf l) => if l.length = n ∧ Nat.ble s.lim i2 = true ∧ i2 ≠ id then put l else none
      | _ => none
    | _ => none
  | _ => none

def gWrite (args : List AV) (s : AS) : Option (AV × AS) :=
  match args with
  | [.ptr id 0 0, .str t] => (gCheck [.ptr id 0 0] s).bind fun r => gPut id t r.2
  | _ => none

theorem gPut_inv {id : Nat} {t : List UInt8} {s s' : AS} {v : AV} (h : gPut id t s = some (v, s')) :
    ∃ y l, s.h id = some (.rows [[.ptr id 0 0, y]]) ∧ BufIs s y l ∧ s.lim ≤ id ∧ id < s.n ∧ l.length + t.length ≤ 140737488355328 ∧ (∀ i2 a b c d, y = .sl i2 a b c d → s.lim ≤ i2 ∧ i2 ≠ id) ∧
      v = .tup [.int .i64 t.length, .top] ∧ s' = { (bufPut s y l t).2 with h := (bufPut s y l t).2.h.upd id (some (.rows [[.ptr id 0 0, (bufPut s y l t).1]])) } := by
  unfold gPut at h
  split at h
  case h_2 => cases h
  rename_i id' y hb
  split at h
  · dsimp only at h
    split at h
    case isFalse => cases h
    rename_i hc
    obtain ⟨rfl, c2, c3, c4⟩ := hc
    cases h
    exact ⟨_, [], hb, .inl ⟨rfl, rfl⟩, Nat.le_of_ble_eq_true c2, c3, c4, fun _ _ _ _ _ q => (by cases q), rfl, rfl⟩
  · rename_i i2 n
    split at h
    case h_2 => cases h
    rename_i l hl
    split at h
    case isFalse => cases h
    rename_i hc
    obtain ⟨rfl, c2, c3⟩ := hc
    dsimp only at h
    split at h
    case isFalse => cases h
    rename_i hd
    obtain ⟨rfl, d2, d3, d4⟩ := hd
    cases h
    exact ⟨_, l, hb, .inr ⟨i2, rfl, hl⟩, Nat.le_of_ble_eq_true d2, d3, d4, fun _ _ _ _ _ q => (by cases q; exact ⟨Nat.le_of_ble_eq_true c2, c3⟩), rfl, rfl⟩
  · cases h

theorem bufPut_stat {s : AS} {y : AV} {l t : List UInt8} (hl : s.lim ≤ s.n) (hy : ∀ i2 a b c d, y = .sl i2 a b c d → s.lim ≤ i2) : s.n ≤ (bufPut s y l t).2.n ∧ (bufPut s y l t).2.lim = s.lim ∧ ∀ j, j < s.lim → (bufPut s y l t).2.h j = s.h j := by
  unfold bufPut
  split
  · rename_i i2 a b c d
    have := hy i2 a b c d rfl
    refine ⟨Nat.le_succ _, rfl, fun j hj => ?_⟩
    show ((s.h.upd i2 none).upd s.n _) j = s.h j
    rw [upd_ne _ _ (by omega), upd_ne _ _ (by omega)]
  · split
    · exact ⟨Nat.le_refl _, rfl, fun _ _ => rfl⟩
    · exact ⟨Nat.le_succ _, rfl, fun j hj => upd_ne _ _ (by omega)⟩

theorem bufPut_row {s : AS} {y : AV} {l t : List UInt8} {id : Nat} {b : Option Blk} (hb : s.h id = b) (hn : id < s.n) (hy : ∀ i2 a b c d, y = .sl i2 a b c d → i2 ≠ id) : (bufPut s y l t).2.h id = b := by
  unfold bufPut
  split
  · rename_i i2 a b c d
    have := hy i2 a b c d rfl
    show ((s.h.upd i2 none).upd s.n _) id = _
    rw [upd_ne _ _ (by omega), upd_ne _ _ (by omega), hb]
  · split
    · exact hb
    · show (s.h.upd s.n _) id = _
      rw [upd_ne _ _ (by omega), hb]

theorem bufPut_scal {s : AS} {y : AV} {l t : List UInt8} : (bufPut s y l t).1.scal = true := by
  unfold bufPut
  split
  · rfl
  · split <;> rfl

theorem gWrite_inv {args : List AV} {s s' : AS} {v : AV} (h : gWrite args s = some (v, s')) : ∃ id t s1, args = [.ptr id 0 0, .str t] ∧ gCheck [.ptr id 0 0] s = some (.tup [], s1) ∧ gPut id t s1 = some (v, s') := by
  unfold gWrite at h
  split at h
  case h_2 => cases h
  rename_i id t
  obtain ⟨⟨v1, s1⟩, h1, h2⟩ := Option.bind_eq_some_iff.1 h
  obtain ⟨id', _, rfl, _⟩ := gCheck_inv h1
  exact ⟨id, t, s1, rfl, h1, h2⟩

theorem write_one : GOne Try.prog 50 gWrite := by
  have hstat : ∀ args s v s', gWrite args s = some (v, s') → s.lim ≤ s.n → s.n ≤ s'.n ∧ s'.lim = s.lim ∧ ∀ id, id < s.lim → s'.h id = s.h id := by
    intro args s v s' h hl
    obtain ⟨id, t, s1, rfl, h1, h2⟩ := gWrite_inv h
    obtain ⟨a1, a2, a3⟩ := check_one.stat _ _ _ _ h1 hl
    obtain ⟨y, l, b1, b2, b3, b4, b5, b6, rfl, rfl⟩ := gPut_inv h2
    obtain ⟨c1, c2, c3⟩ := bufPut_stat (s := s1) (y := y) (l := l) (t := t) (by omega) (fun i2 a b c d q => (b6 i2 a b c d q).1)
    refine ⟨Nat.le_trans a1 c1, by rw [← a2]; exact c2, fun j hj => ?_⟩
    show (Heap.upd _ id _) j = _
    rw [upd_ne _ _ (by omega), c3 j (by omega), a3 j hj]
  refine ⟨⟨_, Try.func50, by kernel_rfl, by kernel_rfl⟩, hstat, ?_⟩
  intro args s v s' h hl N ρ w Vs hw ha
  obtain ⟨id, t, s1, rfl, h1, h2⟩ := gWrite_inv h
  obtain ⟨a1, a2, a3⟩ := check_one.stat _ _ _ _ h1 hl
  obtain ⟨y, l, b1, b2, b3, b4, b5, b6, rfl, rfl⟩ := gPut_inv h2
  match Vs, ha, ha.len with
  | [V1, V2], ha, _ =>
    have r1 : Rel ρ (.ptr id 0 0) V1 := ha.at_ 0 _ rfl
    have r2 : Rel ρ (.str t) V2 := ha.at_ 1 _ rfl
    cases r2 with
    | @str _ bs hbs =>
      subst hbs
      have hsz : bs.size = bs.data.toList.length := rfl
      have hc := check_one.run _ _ _ _ h1 hl N ρ w [V1] hw (.cons r1 .nil)
      cases r1 with
      | @ptr _ _ _ L hL =>
        rw [show 0 * L.s + 0 = 0 by omega] at hc ⊢
        refine (write_calls L.b bs w (fun w' => ∃ V ρ', Value.tuple #[] = V ∧ Done Try.prog N ρ w (.tup []) s1 (fun id => s.n ≤ id) V w' ρ')
          (fun w' => ∃ ρ', Done Try.prog N ρ w (.tup [.int .i64 bs.data.toList.length, .top]) { (bufPut s1 y l bs.data.toList).2 with h := (bufPut s1 y l bs.data.toList).2.h.upd id (some (.rows [[.ptr id 0 0, (bufPut s1 y l bs.data.toList).1]])) } (fun id => s.n ≤ id) (.tuple #[.int .i64 bs.size, .nilIface]) w' ρ')
          ?_ ?_).mono ?_
        · refine hc.mono fun e w' ⟨V, ρ', he, hd⟩ => ?_
          have hr := hd.rel
          cases hr with
          | @tup _ vs hz _ =>
            have : vs = #[] := Array.size_eq_zero_iff.1 (by simpa using hz)
            subst this
            exact ⟨he, _, ρ', rfl, hd⟩
        · rintro w1 ⟨_, ρ1, rfl, hd⟩
          have hL1 := hd.ext.loc _ _ hL
          obtain ⟨d2, d, hdd⟩ := hd.ok.cell b1 hL1 (i := 0) rfl
          obtain ⟨_, q2, q3⟩ := hdd 1 _ rfl
          rw [show 0 * L.s + 1 = 1 by omega] at q3
          obtain ⟨a, n, c, w2, ρ2, k1, k2, k3⟩ := append_buf hd.ok q2 b2 bs (by rw [hsz]; exact b5)
          have hL2 := k2.ext.loc _ _ hL1
          have hrow : (bufPut s1 y l bs.data.toList).2.h id = some (.rows [[.ptr id 0 0, y]]) := bufPut_row b1 b4 (fun i2 a b c d q => (b6 i2 a b c d q).2)
          obtain ⟨_, e, hee⟩ := k2.ok.cell hrow hL2 (i := 0) rfl
          obtain ⟨_, p2, p3⟩ := hee 1 _ rfl
          rw [show 0 * L.s + 1 = 1 by omega] at p3
          have hsame : e 1 = d 1 := by
            have : w2.heap[L.b]? = w1.heap[L.b]? := k3 L.b (cell_lt q3) fun i2 a b c d M hy hM hq => by
              obtain ⟨_, z2⟩ := b6 i2 a b c d hy
              rcases b2 with ⟨e0, _⟩ | ⟨i3, e0, hi3⟩
              · rw [e0] at hy; cases hy
              · rw [e0] at hy; cases hy
                exact z2 (hd.ok.inj _ _ _ _ (by rw [hi3]; simp) (by rw [b1]; simp) hM hL1 hq.symm)
            have := cell_world (o := 1) this
            rw [q3, p3] at this
            simpa using this
          rw [hsame] at p3
          have hfz : w2.frozen? ⟨L.b, 1, none⟩ = false := by
            obtain ⟨L', hL', _, _, cc, T, g1, _⟩ := k2.ok.own id _ hrow
            rw [hL2] at hL'; cases hL'
            simp [World.frozen?, g1]
          refine ⟨d 1, a, n, c, w2, q3, k1, p3, hfz, ρ2, ?_⟩
          obtain ⟨w3, m1, m2, m3⟩ := cells_put (P := Try.prog) k2.ok hrow hL2 (i := 0) rfl (k := 1) (RelL.cons k2.rel .nil) (by simp [scals, bufPut_scal]) (by simp)
          have hst := run_storeCells_cells (P := Try.prog) L.b 1 [Value.slice a n c] 0 w2 (by intro j hj; simp at hj; subst hj; simp [p3]) (by intro j hj; simp at hj; subst hj; simpa using hfz) (by intro v hv; simp at hv; subst hv; rfl)
          rw [show 0 * L.s + 1 = 1 by omega] at m1
          rw [hst] at m1
          cases m1
          exact ⟨hd.ext.trans k2.ext, .tup (by simp) (fun j x q => by
            match j, q with
            | 0, q => cases q; exact .int
            | 1, q => cases q; exact .top), m2, hd.bel.trans (k2.bel.trans m3), fun j hj => by rw [k2.keep j (by omega), hd.keep j hj]⟩
        · rintro e w' ⟨rfl, ρ', hd⟩
          exact ⟨_, ρ', rfl, hd⟩

end
end Go.Proofs.Ytgcciohenncplaa.Ai

/- A small layer for proofs about calls, part 8: operations that make or write memory; regions; code. -/
import Derived.Test.YtaecppimppeebaaDoorSx7
import Derived.Laws.Externs
namespace Go.SX
open Go

structure SS where
  F : Fr
  M : List Res
  Z : Heap

structure Rel (E : Env) (N : Nat) (s : SS) (a : Act) (w : World) : Prop where
  frame : FrameOk s.M N s.F a.tmps
  defers : a.defers = []
  mem : Mem E s.M s.Z w

/-- what 'o' must do, said of the machine itself -/
def vcRaw (P : Program) (N : Nat) (o : Oper) (s : SS) (K : SS → Prop) : Prop :=
  ∀ E a w, Rel E N s a w → o.wp P a w (fun a' w' => ∃ s', Rel E N s' a' w' ∧ K s') (fun _ _ _ => False)

/-- the result goes into its slot -/
def kPut (N : Nat) (dst : Option Nat) (s : SS) (K : SS → Prop) (x : SV) : Prop :=
  match dst with
  | none => K s
  | some d => d < N ∧ K ⟨(d, x) :: s.F, s.M, s.Z⟩

theorem rel_put {E : Env} {N : Nat} {F : Fr} {M : List Res} {Z : Heap} {a : Act} {w : World} (hF : FrameOk M N F a.tmps) (hd : a.defers = []) (hm : Mem E M Z w) {d : Option Nat} {x : SV} {v : Value}
    (hx : has M x v) {K : SS → Prop} (h : kPut N d ⟨F, M, Z⟩ K x) : ∃ s', Rel E N s' (a.put d v) w ∧ K s' := by
  cases d with
  | none => exact ⟨_, ⟨hF, hd, hm⟩, h⟩
  | some d => exact ⟨_, ⟨hF.put d h.1 hx, hd, hm⟩, h.2⟩

/-- a call of function g -/
def vcCall (P : Program) (N : Nat) (dst : Option Nat) (g : FuncId) (args : List SV) (s : SS) (K : SS → Prop) : Prop :=
  ∀ E a w, Rel E N s a w → ∀ vs, denL s.M args = some vs → Calls P g vs.toArray w fun e w' => ∃ v, e = .returned v ∧ ∃ s', Rel E N s' (a.put dst v) w' ∧ K s'

/-- a new block of known cells -/
def vcNew (N : Nat) (dst : Option Nat) (cs : List SV) (ty : TypeId) (x : SV) (s : SS) (K : SS → Prop) : Prop :=
  ∀ b, kPut N dst ⟨s.F, s.M ++ [.blk b cs ty], s.Z⟩ K x

def SV.flat : SV → Bool
  | .tup _ | .agg _ => false
  | _ => true

def killM (i : Nat) : Res → Res
  | .blk b cs ty => .blk b (cs.map (kill i)) ty
  | r => r

def killL (i : Nat) : List Res → List Res
  | [] => []
  | r :: l => killM i r :: killL i l
theorem killL_eq (i : Nat) : ∀ l, killL i l = l.map (killM i)
  | [] => rfl
  | r :: l => by simp [killL, killL_eq i l]

def oneAll : List SV → Prop
  | [] => True
  | .val v :: r => v.oneCell' = true ∧ oneAll r
  | _ :: r => oneAll r
theorem oneAll_mem : ∀ {l : List SV}, oneAll l → ∀ c ∈ l, ∀ v, c = .val v → v.oneCell' = true
  | .val u :: r, h, c, hc, v, e => by
    rcases List.mem_cons.1 hc with rfl | hc
    · cases e; exact h.1
    · exact oneAll_mem h.2 c hc v e
  | .any :: r, h, c, hc, v, e => by rcases List.mem_cons.1 hc with rfl | hc; · cases e
                                    · exact oneAll_mem (l := r) h c hc v e
  | .ptr _ _ :: r, h, c, hc, v, e => by rcases List.mem_cons.1 hc with rfl | hc; · cases e
                                        · exact oneAll_mem (l := r) h c hc v e
  | .row _ :: r, h, c, hc, v, e => by rcases List.mem_cons.1 hc with rfl | hc; · cases e
                                      · exact oneAll_mem (l := r) h c hc v e
  | .rptr _ _ :: r, h, c, hc, v, e => by rcases List.mem_cons.1 hc with rfl | hc; · cases e
                                         · exact oneAll_mem (l := r) h c hc v e
  | .mp _ :: r, h, c, hc, v, e => by rcases List.mem_cons.1 hc with rfl | hc; · cases e
                                     · exact oneAll_mem (l := r) h c hc v e
  | .sl _ _ _ _ :: r, h, c, hc, v, e => by rcases List.mem_cons.1 hc with rfl | hc; · cases e
                                           · exact oneAll_mem (l := r) h c hc v e
  | .xptr _ _ :: r, h, c, hc, v, e => by rcases List.mem_cons.1 hc with rfl | hc; · cases e
                                         · exact oneAll_mem (l := r) h c hc v e
  | .agg _ :: r, h, c, hc, v, e => by rcases List.mem_cons.1 hc with rfl | hc; · cases e
                                      · exact oneAll_mem (l := r) h c hc v e
  | .tup _ :: r, h, c, hc, v, e => by rcases List.mem_cons.1 hc with rfl | hc; · cases e
                                      · exact oneAll_mem (l := r) h c hc v e
  | .fn _ _ :: r, h, c, hc, v, e => by rcases List.mem_cons.1 hc with rfl | hc; · cases e
                                       · exact oneAll_mem (l := r) h c hc v e
  | .cnd _ _ :: r, h, c, hc, v, e => by rcases List.mem_cons.1 hc with rfl | hc; · cases e
                                        · exact oneAll_mem (l := r) h c hc v e
def oneVals : List Value → Prop
  | [] => True
  | v :: r => v.oneCell' = true ∧ oneVals r
theorem oneVals_mem : ∀ {l : List Value}, oneVals l → ∀ v ∈ l, v.oneCell' = true
  | v :: r, h, u, hu => by
    rcases List.mem_cons.1 hu with rfl | hu
    · exact h.1
    · exact oneVals_mem h.2 u hu
theorem oneVals_of : ∀ {l : List Value}, (∀ v ∈ l, v.oneCell' = true) → oneVals l
  | [], _ => trivial
  | v :: r, h => ⟨h v (by simp), oneVals_of fun u hu => h u (by simp [hu])⟩

def vcStoreA (i b off : Nat) (xs : List Value) (ty : TypeId) (fr : Nat × Nat) (n : Nat) (s : SS) (K : SS → Prop) (new : List SV) : Prop :=
  match new with
  | [.val v] => n = 1 ∧ off < xs.length ∧ (fr.2 ≤ off ∨ off < fr.1) ∧ v.oneCell' = true ∧ K ⟨s.F, s.M.set i (.arr b (xs.set off v) ty fr), s.Z⟩
  | _ => False
def vcStoreW (i : Nat) (A : Option Addr) (cap : Nat) (e : TypeId) (z len off : Nat) (xs : List Value) (n : Nat) (s : SS) (K : SS → Prop) (vs : Option (List Value)) : Prop :=
  match vs with
  | some vs => vs.length = n ∧ off + n ≤ xs.length ∧ oneVals vs ∧ K ⟨s.F, s.M.set i (.row A cap e z len (xs.take off ++ vs ++ xs.drop (off + n))), s.Z⟩
  | none => False
def vcStoreR (i off : Nat) (new : List SV) (n : Nat) (s : SS) (K : SS → Prop) (q : Option Res) : Prop :=
  match q with
  | some (.blk b cs ty) => new.length = n ∧ off + n ≤ cs.length ∧ oneAll new ∧ new.all SV.flat = true ∧ K ⟨s.F, s.M.set i (.blk b (cs.take off ++ new ++ cs.drop (off + n)) ty), s.Z⟩
  | some (.arr b xs ty fr) => vcStoreA i b off xs ty fr n s K new
  | _ => False
def vcStoreP (i off : Nat) (new : List SV) (n : Nat) (s : SS) (K : SS → Prop) (q : Option Res) : Prop :=
  match q with
  | some (.row A cap e z len xs) => vcStoreW i A cap e z len off xs n s K (new.mapM SV.val?)
  | _ => False
def vcStoreX (p : SV) (s : SS) (K : SS → Prop) (new : Option (List SV)) (n : Option Nat) : Prop :=
  match p, new, n with
  | .ptr i off, some new, some n => vcStoreR i off new n s K s.M[i]?
  | .rptr i off, some new, some n => vcStoreP i off new n s K s.M[i]?
  | _, _, _ => False
def vcStore (P : Program) (dst : Option Nat) (t : TypeId) (p x : SV) (s : SS) (K : SS → Prop) : Prop := dst = none ∧ vcStoreX p s K x.cellsOf (sizeT P t)

def bytesT (P : Program) (t : TypeId) : Option Nat := (P.info? t).map (·.bytes)

/-- append: what is appended, as cells -/
def newsV (m z : Nat) (k : Nat → List Value → Prop) (vs : Option (List Value)) : Prop :=
  match vs with
  | some vs => vs.length = m * z ∧ k m vs
  | none => False
def newsS (off m z : Nat) (k : Nat → List Value → Prop) (q : Option Res) : Prop :=
  match q with
  | some (.blk _ cs _) => newsV m z k (((cs.drop off).take (m * z)).mapM SV.val?)
  | some (.arr _ xs _ _) => off + m * z ≤ xs.length ∧ k m ((xs.drop off).take (m * z))
  | _ => False
def newsR (z : Nat) (k : Nat → List Value → Prop) (q : Option Res) : Prop :=
  match q with
  | some (.row _ _ _ _ m xs) => xs.length = m * z ∧ k m xs
  | _ => False
def newsOf (M : List Res) (Z : Heap) (x : SV) (z : Nat) (k : Nat → List Value → Prop) : Prop :=
  match x with
  | .sl j off m _ => newsS off m z k M[j]?
  | .val (.slice A m _) => ∃ vs : List Value, vs.length = m * z ∧ Rds Z A 0 vs ∧ k m vs
  | .val (.string st) => z = 1 ∧ k st.size (st.data.toList.map byteV)
  | .row j => newsR z k M[j]?
  | _ => False

def kApp (N : Nat) (dst : Option Nat) (i _cap : Nat) (e : TypeId) (z by_ n : Nat) (xs : List Value) (s : SS) (K : SS → Prop) (m : Nat) (vs : List Value) : Prop :=
  oneVals vs ∧ n + m ≤ maxLen ∧ (n + m) * by_ ≤ 140737488355328 ∧
    ∀ A' cap', kPut N dst ⟨s.F.map (kill i), (killL i s.M).set i (.row A' cap' e z (n + m) (xs ++ vs)), s.Z⟩ K (.row i)
def kAppN (N : Nat) (dst : Option Nat) (e : TypeId) (z by_ : Nat) (s : SS) (K : SS → Prop) (m : Nat) (vs : List Value) : Prop :=
  oneVals vs ∧ m ≤ maxLen ∧ m * by_ ≤ 140737488355328 ∧
    ∀ A' cap', kPut N dst ⟨s.F, s.M ++ [.row A' cap' e z m vs], s.Z⟩ K (.row s.M.length)
def vcAppR (N : Nat) (dst : Option Nat) (i : Nat) (e : TypeId) (z by_ : Nat) (y : SV) (s : SS) (K : SS → Prop) (q : Option Res) : Prop :=
  match q with
  | some (.row _ cap e' z' n xs) => e' = e ∧ z' = z ∧ newsOf s.M s.Z y z (kApp N dst i cap e z by_ n xs s K)
  | _ => False
def vcAppX (N : Nat) (dst : Option Nat) (e : TypeId) (z by_ : Nat) (x y : SV) (s : SS) (K : SS → Prop) : Prop :=
  match x with
  | .row i => vcAppR N dst i e z by_ y s K s.M[i]?
  | .val (.slice none 0 0) => newsOf s.M s.Z y z (kAppN N dst e z by_ s K)
  | _ => False
def vcAppE (N : Nat) (dst : Option Nat) (e : TypeId) (x y : SV) (s : SS) (K : SS → Prop) (z by_ : Option Nat) (zc : Option (List Value)) : Prop :=
  match z, by_, zc with
  | some z, some by_, some zc => zc.length = z ∧ 0 < z ∧ vcAppX N dst e z by_ x y s K
  | _, _, _ => False
def vcAppT (P : Program) (N : Nat) (dst : Option Nat) (x y : SV) (s : SS) (K : SS → Prop) (d : Option TypeDesc) : Prop :=
  match d with
  | some (.slice e) => vcAppE N dst e x y s K (sizeT P e) (bytesT P e) (zeroT P e)
  | _ => False
def vcAppend (P : Program) (N : Nat) (dst : Option Nat) (t t' : TypeId) (x y : SV) (s : SS) (K : SS → Prop) : Prop :=
  (t' = t ∨ P.underlying t' = some .string) ∧ vcAppT P N dst x y s K (P.underlying t)

def vcBoxC (N : Nat) (dst : Option Nat) (e : TypeId) (s : SS) (K : SS → Prop) (cs : Option (List SV)) : Prop :=
  match cs with
  | some cs => vcNew N dst cs e (.ptr s.M.length 0) s K
  | none => False
def vcAlloc (N : Nat) (dst : Option Nat) (e : TypeId) (s : SS) (K : SS → Prop) (z : Option (List Value)) : Prop :=
  match z with
  | some z => vcNew N dst (z.map .val) e (.ptr s.M.length 0) s K
  | none => False
def vcSlC (N : Nat) (dst : Option Nat) (e : TypeId) (len : Nat) (s : SS) (K : SS → Prop) (cs : Option (List SV)) : Prop :=
  match cs with
  | some cs => vcNew N dst cs e (.sl s.M.length 0 len len) s K
  | none => False
def zerosOf (len z : Nat) (zc : List Value) : List SV := (List.range (len * z)).map fun i => .val (zc.getD (i % z) undef)
def placesIn (len z : Nat) : List (Nat × Nat) := (List.range len).map fun i => (i * z, z)
def vcSlZ (N : Nat) (dst : Option Nat) (e : TypeId) (len : Nat) (parts : List (Nat × Operand)) (s : SS) (K : SS → Prop) (z : Option Nat) (zc : Option (List Value)) : Prop :=
  match z, zc with
  | some z, some zc => len * z ≤ 16777216 ∧ zc.length = z ∧ 0 < z ∧ grdParts s.F parts ∧ vcSlC N dst e len s K (fillS (placesIn len z) (zerosOf len z zc) (partsOf s.F parts))
  | _, _ => False
def vcSlT (P : Program) (N : Nat) (dst : Option Nat) (len : Nat) (parts : List (Nat × Operand)) (s : SS) (K : SS → Prop) (d : Option TypeDesc) : Prop :=
  match d with
  | some (.slice e) => vcSlZ N dst e len parts s K (sizeT P e) (zeroT P e)
  | _ => False
def canCall (P : Program) (g : FuncId) : Prop := ∃ fn, P.funcs[g]? = some fn ∧ fn.body.isSome = true ∧ (fn.name == "runtime.NumGoroutine") = false
/-- a function without a body: the model's own -/
def extOf (P : Program) (g : FuncId) : Option (Array Value → Sem Value) :=
  (P.funcs[g]?).bind fun fn => bif fn.body.isNone && !(fn.name == "runtime.NumGoroutine") && (Extern.findNext fn).isNone then Extern.find fn else none
def runsTo (P : Program) (e : Array Value → Sem Value) (vs : List Value) (x : Value) : Prop := ∀ w, (e vs.toArray).run P w = .ok x w
def extV (P : Program) (e : Array Value → Sem Value) (k : SV → Prop) (vs : Option (List Value)) : Prop :=
  match vs with
  | some vs => ∃ x, runsTo P e vs x ∧ k (.val x)
  | none => False
def extK (P : Program) (e : Array Value → Sem Value) (M : List Res) (args : List SV) (k : SV → Prop) : Prop := extV P e k (denL M args)
theorem extK_sound {P : Program} {e : Array Value → Sem Value} {M : List Res} {args : List SV} {k : SV → Prop} (h : extK P e M args k) : ∃ vs x, denL M args = some vs ∧ (∀ w, (e vs.toArray).run P w = .ok x w) ∧ k (.val x) := by
  unfold extK extV at h
  split at h
  · rename_i vs hvs
    obtain ⟨x, h1, h2⟩ := h
    exact ⟨vs, x, hvs, h1, h2⟩
  · exact h.elim
def vcCallG (P : Program) (N : Nat) (dst : Option Nat) (g : FuncId) (args : List SV) (s : SS) (K : SS → Prop) (e : Option (Array Value → Sem Value)) : Prop :=
  match e with
  | some e => extK P e s.M args (kPut N dst s K)
  | none => canCall P g ∧ vcCall P N dst g args s K
theorem extOf_run {P : Program} {g : FuncId} {e : Array Value → Sem Value} (h : extOf P g = some e) (args : Array Value) (w : World) :
    (callFunc g args).run P w = ((e args).run P w).andThen fun v w' => .ok (.value v) w' := by
  simp only [extOf, Option.bind_eq_some_iff] at h
  obtain ⟨fn, hf, h⟩ := h
  cases hc : (fn.body.isNone && !(fn.name == "runtime.NumGoroutine") && (Extern.findNext fn).isNone) with
  | false => rw [hc] at h; cases h
  | true =>
    rw [hc] at h
    simp only [Bool.and_eq_true, Bool.not_eq_true'] at hc
    exact run_callFunc_extern hf hc.1.2 hc.1.1 (by simpa using hc.2) h args w
def vcCallF (P : Program) (N : Nat) (o : Oper) (args : List Operand) (s : SS) (K : SS → Prop) (f : SV) : Prop :=
  match f with
  | .val (.func (.func g) ⟨[]⟩ ⟨cap⟩) => vcCallG P N o.dst g (cores s.F args ++ cap.map .val) s K (extOf P g)
  | .fn (.func g) cap => vcCallG P N o.dst g (cores s.F args ++ cap) s K (extOf P g)
  | _ => vcRaw P N o s K
def vcApp2 (P : Program) (N : Nat) (o : Oper) (s : SS) (K : SS → Prop) (args : List Operand) (ts : List TypeId) : Prop :=
  match args, ts with
  | [x, y], [t, t'] => (ev s.F x).grd ∧ (ev s.F y).grd ∧ vcAppend P N o.dst t t' (ev s.F x).core (ev s.F y).core s K
  | _, _ => vcRaw P N o s K
/-- the bytes of a string, in a block of their own -/
def vcBytesV (N : Nat) (dst : Option Nat) (e : TypeId) (s : SS) (K : SS → Prop) (x : SV) : Prop :=
  match x with
  | .val (.string st) => ∀ (b cap : Nat) (pad : List Value), st.size ≤ cap → pad.length = cap - st.size → kPut N dst ⟨s.F, s.M ++ [.arr b (st.data.toList.map byteV ++ pad) e (cap, cap + 1)], s.Z⟩ K (.sl s.M.length 0 st.size cap)
  | _ => False
def vcBytesT (P : Program) (N : Nat) (dst : Option Nat) (s : SS) (K : SS → Prop) (x : SV) (d d' : Option TypeDesc) : Prop :=
  match d, d' with
  | some .string, some (.slice e) => P.underlying e = some (.int .u8) ∧ vcBytesV N dst e s K x
  | _, _ => False
/-- a slice is made -/
def madeL (z : List Value) (n : Nat) : List Value := (List.range n).map fun i => z.getD (i % z.length) undef
def vcMakeI (N : Nat) (dst : Option Nat) (e : TypeId) (z by_ : Nat) (zc : List Value) (s : SS) (K : SS → Prop) (n c : SV) : Prop :=
  match n, c with
  | .val (.int _ n), .val (.int _ c) => 0 ≤ n ∧ n ≤ c ∧ (by_ : Int) * c ≤ 281474976710656 ∧ c ≤ (maxLen : Int) ∧
      ∀ b, kPut N dst ⟨s.F, s.M ++ [.row (some ⟨b, 0, none⟩) c.toNat e z n.toNat (madeL zc (n.toNat * z))], s.Z⟩ K (.row s.M.length)
  | _, _ => False
def vcMakeE (N : Nat) (dst : Option Nat) (e : TypeId) (n c : SV) (s : SS) (K : SS → Prop) (z by_ : Option Nat) (zc : Option (List Value)) : Prop :=
  match z, by_, zc with
  | some z, some by_, some zc => zc.length = z ∧ 0 < z ∧ vcMakeI N dst e z by_ zc s K n c
  | _, _, _ => False
def vcMakeT (P : Program) (N : Nat) (dst : Option Nat) (n c : SV) (s : SS) (K : SS → Prop) (d : Option TypeDesc) : Prop :=
  match d with
  | some (.slice e) => vcMakeE N dst e n c s K (sizeT P e) (bytesT P e) (zeroT P e)
  | _ => False
/-- the bytes of a string are copied into a known block -/
def vcCopyR (N : Nat) (dst : Option Nat) (i off len : Nat) (st : ByteArray) (s : SS) (K : SS → Prop) (q : Option Res) : Prop :=
  match q with
  | some (.blk b cs ty) => ∃ vs : List Value, cs = vs.map .val ∧ off + len ≤ cs.length ∧
      kPut N dst ⟨s.F, s.M.set i (.blk b ((vs.take off ++ (st.data.toList.take len).map byteV ++ vs.drop (off + min st.size len)).map .val) ty), s.Z⟩ K (.val (.int .i64 (min st.size len : Nat)))
  | _ => False
def vcCopyV (N : Nat) (dst : Option Nat) (d x : SV) (s : SS) (K : SS → Prop) : Prop :=
  match d, x with
  | .sl i off len _, .val (.string st) => vcCopyR N dst i off len st s K s.M[i]?
  | _, _ => False
def vcCopyT (P : Program) (N : Nat) (dst : Option Nat) (d x : SV) (s : SS) (K : SS → Prop) (t : Option TypeDesc) : Prop :=
  match t with
  | some (.slice e) => sizeT P e = some 1 ∧ vcCopyV N dst d x s K
  | _ => False
def vcCopy2 (P : Program) (N : Nat) (o : Oper) (s : SS) (K : SS → Prop) (args : List Operand) (ts : List TypeId) : Prop :=
  match args, ts with
  | [x, y], [t, _] => (ev s.F x).grd ∧ (ev s.F y).grd ∧ vcCopyT P N o.dst (ev s.F x).core (ev s.F y).core s K (P.underlying t)
  | _, _ => vcRaw P N o s K
def vcCallee (P : Program) (N : Nat) (o : Oper) (args : List Operand) (ts : List TypeId) (s : SS) (K : SS → Prop) (c : Callee) : Prop :=
  match c with
  | .value f => (ev s.F f).grd ∧ grdAll s.F args ∧ (cores s.F args).all SV.known = true ∧ vcCallF P N o args s K (ev s.F f).core
  | .builtin .append => vcApp2 P N o s K args ts
  | .builtin .copy => vcCopy2 P N o s K args ts
  | _ => vcRaw P N o s K
/-- a new map; what is put into a map -/
def vcMap (N : Nat) (dst : Option Nat) (s : SS) (K : SS → Prop) : Prop := ∀ b, kPut N dst ⟨s.F, s.M ++ [.obj b (.map #[] 0)], s.Z⟩ K (.mp s.M.length)
def vcPutR (P : Program) (kt : TypeId) (i : Nat) (key v : Value) (s : SS) (K : SS → Prop) (r : Option Res) : Prop :=
  match r with
  | some (.obj b (.map es c)) => KeysOk P kt (key :: es.toList.map (·.key)) ∧ K ⟨s.F, s.M.set i (.obj b (.map (putE es c key v) (putC es c key))), s.Z⟩
  | _ => False
def vcPutV (P : Program) (kt : TypeId) (i : Nat) (key : Value) (s : SS) (K : SS → Prop) (v : Option Value) : Prop :=
  match v with
  | some v => vcPutR P kt i key v s K s.M[i]?
  | none => False
def vcPutX (P : Program) (kt : TypeId) (m key v : SV) (s : SS) (K : SS → Prop) : Prop :=
  match m, key with
  | .mp i, .val key => vcPutV P kt i key s K (den s.M v)
  | _, _ => False
def vcPutT (P : Program) (m key v : SV) (s : SS) (K : SS → Prop) (d : Option TypeDesc) : Prop :=
  match d with
  | some (.map kt _) => vcPutX P kt m key v s K
  | _ => False
/-- one operation that makes or writes memory, or calls -/
def vcStepO (P : Program) (N : Nat) (o : Oper) (s : SS) (K : SS → Prop) (op : Op) : Prop :=
  match op with
  | .alloc e => vcAlloc N o.dst e s K (zeroT P e)
  | .box e x => (ev s.F x).grd ∧ vcBoxC N o.dst e s K (ev s.F x).core.cellsOf
  | .buildSlice t len parts => vcSlT P N o.dst len parts.toList s K (P.underlying t)
  | .store t p x => (ev s.F p).grd ∧ (ev s.F x).grd ∧ vcStore P o.dst t (ev s.F p).core (ev s.F x).core s K
  | .makeMap _ none => vcMap N o.dst s K
  | .convert t d x => (ev s.F x).grd ∧ vcBytesT P N o.dst s K (ev s.F x).core (P.underlying t) (P.underlying d)
  | .makeSlice t n c => ((ev s.F n).grd ∧ (ev s.F c).grd) ∧ vcMakeT P N o.dst (ev s.F n).core (ev s.F c).core s K (P.underlying t)
  | .mapUpdate t m k v => o.dst = none ∧ ((ev s.F m).grd ∧ (ev s.F k).grd ∧ (ev s.F v).grd) ∧ vcPutT P (ev s.F m).core (ev s.F k).core (ev s.F v).core s K (P.underlying t)
  | .call c => vcCallee P N o c.args.toList c.argTypes.toList s K c.callee
  | _ => vcRaw P N o s K
def vcStep (P : Program) (N : Nat) (o : Oper) (s : SS) (K : SS → Prop) : Prop := vcStepO P N o s K o.op

theorem zero_run {P : Program} {e : TypeId} {z : List Value} (h : zeroT P e = some z) : ∃ v : Value, v.cells = z.toArray ∧ ∀ w, (zeroValue e).run P w = .ok v w := by
  simp only [zeroT, Option.bind_eq_some_iff, Option.map_eq_some_iff] at h
  obtain ⟨i, hi, zv, hzv, rfl⟩ := h
  exact ⟨zv, by simp, fun w => by simp [zeroValue, typeInfo, hi, hzv]⟩

theorem vcNew_sound {N : Nat} {dst : Option Nat} {cs : List SV} {ty : TypeId} {x : SV} {s : SS} {K : SS → Prop} (h : vcNew N dst cs ty x s K) {E : Env} {a : Act} {w : World} (hr : Rel E N s a w)
    {vs : Array Value} (hd : denL s.M cs = some vs.toList) {v : Value} (hx : ∀ M : List Res, M[s.M.length]? = some (.blk w.heap.size cs ty) → has M x v) :
    ∃ s', Rel E N s' (a.put dst v) (w.alloc (.cells vs ty)) ∧ K s' := by
  have hl := denL_length hd
  have hm := hr.mem.new_blk vs cs ty (by simpa using hl.symm) (fun j c hc => by
    obtain ⟨u, h1, h2⟩ := denL_get hd j c hc
    rw [Array.getElem?_toList] at h1
    simp only [Array.getD_eq_getD_getElem?, h1, Option.getD_some]
    exact has_of h2)
  exact rel_put (hr.frame.mono (Grows.append s.M _).places.has_) hr.defers hm (hx _ (by simp)) (h w.heap.size)

theorem Mem.set_row {E : Env} {M : List Res} {Z : Heap} {w : World} (h : Mem E M Z w) {i b off : Nat} {cs new : List SV} {ty : TypeId} {vs : List Value} (hi : M[i]? = some (.blk b cs ty)) (ho : off + new.length ≤ cs.length)
    (hn : new.length = vs.length) (hc : ∀ (j : Nat) (c : SV), new[j]? = some c → has M c (vs.getD j undef)) :
    ∃ cur : Array Value, w.heap[b]? = some (.cells cur ty (0, 0)) ∧ cur.size = cs.length ∧
    Mem E (M.set i (.blk b (cs.take off ++ new ++ cs.drop (off + new.length)) ty)) Z (w.setRow b (cur.toList.take off ++ vs ++ cur.toList.drop (off + vs.length)).toArray) := by
  obtain ⟨cur, h1, h2, h3⟩ := h.own i _ hi
  refine ⟨cur, h1, h2, ?_⟩
  have hP : Places M (M.set i (.blk b (cs.take off ++ new ++ cs.drop (off + new.length)) ty)) := places_set hi (fun _ _ e => e) (fun _ e => e) (fun _ _ e => e) (fun _ e => e) (fun _ _ _ _ e => e)
  refine h.turn hi rfl ⟨rfl, rfl, rfl, by simp, fun k _ hk => setRow_other w b k _ hk⟩ hP (fun c hc => by cases hc; exact .inl rfl) ?_
  refine ⟨_, setRow_heap w b cur _ ty (0, 0) h1, by simp [h2, hn], fun j c hj => ?_⟩
  refine hP.has_ _ _ ?_
  simp only [Array.getD_eq_getD_getElem?, List.getElem?_toArray]
  by_cases c1 : j < off
  · rw [List.append_assoc, List.getElem?_append_left (by simp <;> omega), List.getElem?_take, if_pos c1] at hj
    rw [List.append_assoc, List.getElem?_append_left (by simp <;> omega), List.getElem?_take, if_pos c1]
    have := h3 j c hj
    simpa [Array.getD_eq_getD_getElem?] using this
  · by_cases c2 : j < off + new.length
    · rw [List.append_assoc, List.getElem?_append_right (by simp <;> omega), List.getElem?_append_left (by simp <;> omega)] at hj
      rw [List.append_assoc, List.getElem?_append_right (by simp <;> omega), List.getElem?_append_left (by simp <;> omega)]
      have e1 : j - (List.take off cs).length = j - off := by simp; omega
      have e2 : j - (List.take off cur.toList).length = j - off := by simp; omega
      rw [e1] at hj
      rw [e2]
      have := hc _ c hj
      simpa [List.getD_eq_getElem?_getD] using this
    · rw [List.getElem?_append_right (by simp <;> omega), List.getElem?_drop] at hj
      rw [List.getElem?_append_right (by simp <;> omega), List.getElem?_drop]
      have e1 : off + new.length + (j - (List.take off cs ++ new).length) = j := by simp; omega
      have e2 : off + vs.length + (j - (List.take off cur.toList ++ vs).length) = j := by simp; omega
      rw [e1] at hj
      rw [e2]
      have := h3 j c hj
      simpa [Array.getD_eq_getD_getElem?] using this

theorem one_of_den {M : List Res} {c : SV} {v : Value} (h : den M c = some v) (h1 : ∀ u, c = .val u → u.oneCell' = true) (h2 : c.flat = true) : v.oneCell' = true := by
  cases c with
  | any => simp [den] at h
  | cnd => simp [den] at h
  | val u => simp only [den, Option.some.injEq] at h; subst h; exact h1 u rfl
  | agg cs => cases h2
  | tup cs => cases h2
  | fn f cap =>
    simp only [den, Option.map_eq_some_iff] at h
    obtain ⟨_, _, rfl⟩ := h; rfl
  | xptr A off =>
    simp only [den, Option.map_eq_some_iff] at h
    obtain ⟨_, _, rfl⟩ := h; rfl
  | _ =>
    simp only [den, Option.bind_eq_some_iff] at h
    obtain ⟨q, _, h⟩ := h
    cases q <;> simp [Res.ptrAt, Res.rowVal, Res.rptrAt, Res.mapVal, Res.slAt] at h <;> first | (subst h; rfl) | (obtain ⟨_, _, rfl⟩ := h; rfl)

theorem mapM_val {cs : List SV} {vs : List Value} (h : cs.mapM SV.val? = some vs) : cs = vs.map .val := by
  induction cs generalizing vs with
  | nil => simp at h; subst h; rfl
  | cons c cs ih =>
    simp only [List.mapM_cons, Option.bind_eq_bind, Option.bind_eq_some_iff, Option.pure_def, Option.some.injEq] at h
    obtain ⟨v, hv, ws, hws, rfl⟩ := h
    rw [ih hws]
    cases c <;> simp [SV.val?] at hv
    subst hv; rfl

theorem vcStore_sound {P : Program} {N : Nat} {dst : Option Nat} {t : TypeId} {p x : SV} {s : SS} {K : SS → Prop} (h : vcStore P dst t p x s K) {E : Env} {a : Act} {w : World} (hr : Rel E N s a w) {u v : Value}
    (hp : has s.M p u) (hx : has s.M x v) : ∃ w', (Instr.storeAt t u v).run P w = .ok () w' ∧ ∃ s', Rel E N s' (a.put dst undef) w' ∧ K s' := by
  obtain ⟨hdst, h⟩ := h
  unfold vcStoreX vcStoreR vcStoreP vcStoreW vcStoreA at h
  split at h
  · rename_i i off new n hnew hn
    split at h
    · rename_i b cs ty hi
      obtain ⟨hl, ho, h1', h2, hK⟩ := h
      have h1 := oneAll_mem h1'
      have hu := ptr_has hi hp
      subst hu
      have hd := cells_of_has hnew hx
      have hlen : new.length = v.cells.size := by simpa using denL_length hd
      have hvl : v.cells.toList.length = n := by rw [Array.length_toList]; omega
      obtain ⟨cur, hh, hcs, hm⟩ := hr.mem.set_row (off := off) (new := new) (vs := v.cells.toList) hi (by omega) (by simpa using hlen) (fun j c hc => by
        obtain ⟨u, e1, e2⟩ := denL_get hd j c hc
        rw [List.getD_eq_getElem?_getD, e1]
        exact has_of e2)
      have hone : ∀ v' ∈ v.cells.toList, v'.oneCell' = true := by
        intro v' hv'
        obtain ⟨j, hj⟩ := List.getElem?_of_mem hv'
        have hjl : j < new.length := by have := (List.getElem?_eq_some_iff.1 hj).1; omega
        obtain ⟨u, e1, e2⟩ := denL_get hd j new[j] (List.getElem?_eq_getElem hjl)
        rw [hj] at e1; cases e1
        refine one_of_den e2 (fun u hu => h1 _ (List.getElem_mem hjl) u hu) ?_
        rw [List.all_eq_true] at h2
        exact h2 _ (List.getElem_mem hjl)
      have hrun := run_storeCells_at (P := P) b off ty v.cells.toList 0 cur w hh (by omega) hone
      refine ⟨w.setRow b (cur.toList.take off ++ v.cells.toList ++ cur.toList.drop (off + v.cells.toList.length)).toArray, ?_, ⟨s.F, _, s.Z⟩, ⟨?_, ?_, ?_⟩, hK⟩
      · simp only [Instr.storeAt, Instr.sureAddr, Sem.run_bind, Sem.run_pure, Result.andThen_ok, storeVar, run_sizeOf_T hn]
        rw [if_neg (by omega)]
        simpa using hrun
      · rw [hdst]
        have hP : Places s.M (s.M.set i (.blk b (cs.take off ++ new ++ cs.drop (off + n)) ty)) := places_set hi (fun _ _ e => e) (fun _ e => e) (fun _ _ e => e) (fun _ e => e) (fun _ _ _ _ e => e)
        exact hr.frame.mono hP.has_
      · rw [hdst]; exact hr.defers
      · rw [hl] at hm; exact hm
    · rename_i b xs ty fr hi
      split at h
      · rename_i v0
        obtain ⟨rfl, ho, hfr, h1, hK⟩ := h
        have hu : u = .pointer (some ⟨b, off, none⟩) := by simp [has, den, hi, Res.ptrAt] at hp; exact hp.symm
        subst hu
        have hd := cells_of_has hnew hx
        have hv : v.cells.toList = [v0] := by simpa [denL, den] using hd.symm
        have hP : Places s.M (s.M.set i (.arr b (xs.set off v0) ty fr)) := places_set hi (fun _ _ e => e) (fun _ e => e) (fun _ _ e => e) (fun _ e => e) (fun _ _ _ _ e => e)
        have hown : w.heap[b]? = some (.cells xs.toArray ty fr) := hr.mem.own i _ hi
        have hcell : w.cell? ⟨b, off, none⟩ = some xs[off] := by simp [World.cell?, hown, ho]
        have hfz : w.frozen? ⟨b, off, none⟩ = false := by
          simp only [World.frozen?, hown]
          rcases hfr with h | h
          · simp; omega
          · simp; omega
        refine ⟨w.setCell ⟨b, off, none⟩ v0, ?_, ⟨s.F, _, s.Z⟩, ⟨?_, ?_, ?_⟩, hK⟩
        · have hs : v.cells.size = 1 := by rw [← Array.length_toList, hv]; rfl
          simp only [Instr.storeAt, Instr.sureAddr, Sem.run_bind, Sem.run_pure, Result.andThen_ok, storeVar, run_sizeOf_T hn]
          rw [if_neg (by omega), hv]
          simp only [storeCells, add_zero, Sem.run_bind, run_store P w _ v0 _ h1, hcell, hfz]
          simp
        · rw [hdst]; exact hr.frame.mono hP.has_
        · rw [hdst]; exact hr.defers
        · refine hr.mem.turn hi rfl ⟨rfl, rfl, rfl, by simp [World.setCell], fun k _ hk => heap_set_ne hk⟩ hP (fun c hc => by cases hc; exact .inl rfl) ?_
          simp [OwnRes, World.setCell, Array.getElem?_modify, hown]
      · exact h.elim
    · exact h.elim
  · rename_i i off new n hnew hn
    split at h
    · rename_i A cap e z len xs hi
      split at h
      · rename_i vs hvs
        obtain ⟨hl, ho, h1', hK⟩ := h
        have h1 := oneVals_mem h1'
        have hnew' := mapM_val hvs
        subst hnew'
        have hd := cells_of_has hnew hx
        rw [denL_vals] at hd
        have hv : v.cells.toList = vs := by simpa using hd.symm
        have hown : w.ownsRow 0 e z (.slice A len cap) len xs := hr.mem.own i _ hi
        simp only [has, den, hi, Option.bind_some, Res.rptrAt, Option.map_eq_some_iff] at hp
        obtain ⟨ad, rfl, rfl⟩ := hp
        by_cases hz : n = 0
        · subst hz
          have : vs = [] := List.eq_nil_of_length_eq_zero hl
          subst this
          have e0 : xs.take off ++ [] ++ xs.drop (off + 0) = xs := by simp
          rw [e0] at hK
          have e1 : s.M.set i (.row (some ad) cap e z len xs) = s.M := by
            apply List.ext_getElem?
            intro j
            rw [List.getElem?_set]
            split
            · rename_i hij; subst hij; rw [if_pos (List.getElem?_eq_some_iff.1 hi).1, hi]
            · rfl
          rw [e1] at hK
          have hs : v.cells.size = 0 := by rw [← Array.length_toList, hv]; rfl
          refine ⟨w, ?_, s, ⟨by rw [hdst]; exact hr.frame, by rw [hdst]; exact hr.defers, hr.mem⟩, hK⟩
          simp only [Instr.storeAt, Instr.sureAddr, Sem.run_bind, Sem.run_pure, Result.andThen_ok, storeVar, run_sizeOf_T hn]
          rw [if_neg (by omega), hv]
          simp [storeCells]
        · obtain ⟨h0, ⟨he, _⟩ | ⟨g, cap', cur, he, hg0, hh, hnc, hcm, hcs, htk⟩⟩ := hown
          · cases he
          · cases he
            have hP : Places s.M (s.M.set i (.row (some ⟨g, 0, none⟩) cap e z len (xs.take off ++ vs ++ xs.drop (off + n)))) := places_set hi (fun _ _ e => e) (fun _ e => e) (fun _ _ e => e) (fun _ e => e) (fun _ _ _ _ e => e)
            have hxl : xs.length ≤ cur.size := by rw [← htk]; simp; omega
            have hrun := run_storeCells_at (P := P) g off e vs 0 cur w hh (by omega) h1
            refine ⟨w.setRow g (cur.toList.take off ++ vs ++ cur.toList.drop (off + vs.length)).toArray, ?_, ⟨s.F, _, s.Z⟩, ⟨?_, ?_, ?_⟩, hK⟩
            · have hs : v.cells.size = n := by rw [← Array.length_toList, hv]; exact hl
              simp only [Instr.storeAt, Instr.sureAddr, Sem.run_bind, Sem.run_pure, Result.andThen_ok, storeVar, run_sizeOf_T hn]
              rw [if_neg (by omega), hv, lit_add]
              simpa using hrun
            · rw [hdst]; exact hr.frame.mono hP.has_
            · rw [hdst]; exact hr.defers
            · refine hr.mem.turn hi rfl ⟨rfl, rfl, rfl, by simp, fun k _ hk => setRow_other w g k _ hk⟩ hP (fun c hc => by cases hc; exact .inl rfl) ?_
              have hxlen : xs.length = len * z := h0
              refine ⟨by simp; omega, .inr ⟨g, cap, _, rfl, hg0, setRow_heap w g cur _ e (0, 0) hh, hnc, hcm, by simp [hl]; omega, ?_⟩⟩
              subst hl
              have htk' : ∀ k, k < len * z → cur.toList[k]? = xs[k]? := by
                intro k hk
                rw [← htk, List.getElem?_take, if_pos hk]
              apply List.ext_getElem?
              intro k
              rw [List.getElem?_take]
              by_cases hk : k < len * z
              · rw [if_pos hk]
                by_cases c1 : k < off
                · rw [List.append_assoc, List.getElem?_append_left (by simp <;> omega), List.append_assoc, List.getElem?_append_left (by simp <;> omega), List.getElem?_take, List.getElem?_take, if_pos c1, if_pos c1, htk' k hk]
                · by_cases c2 : k < off + vs.length
                  · rw [List.append_assoc, List.getElem?_append_right (by simp <;> omega), List.getElem?_append_left (by simp <;> omega), List.append_assoc, List.getElem?_append_right (by simp <;> omega), List.getElem?_append_left (by simp <;> omega)]
                    congr 1
                    simp; omega
                  · rw [List.getElem?_append_right (by simp <;> omega), List.getElem?_drop, List.getElem?_append_right (by simp <;> omega), List.getElem?_drop]
                    have e1 : off + vs.length + (k - (List.take off cur.toList ++ vs).length) = k := by simp; omega
                    have e2 : off + vs.length + (k - (List.take off xs ++ vs).length) = k := by simp; omega
                    rw [e1, e2, htk' k hk]
              · rw [if_neg hk, List.getElem?_eq_none]
                simp; omega
      · exact h.elim
    · exact h.elim
  · exact h.elim

end Go.SX

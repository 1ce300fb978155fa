/- maps.Clone at the disk's maps. -/
import Derived.Test.YtpmejcfbnghaeaaGreatDoorT29
import Derived.Laws.Externs
import Derived.MapKept
namespace Go.Abs
open Go.RowKit
set_option linter.unusedVariables false
set_option maxRecDepth 100000
theorem run_map_nil {P : Program} (w : World) (t k e : TypeId) (p : Option Nat) (h : P.underlying t = some (.map k e)) : (binOp .eql t (.map p) (.map none)).run P w = .ok (.bool p.isNone) w := by
  have h1 : ∀ d, (Op.equalIn (d + 1) t (.map p) (.map none)).run P w = .ok p.isNone w := by
    intro d
    cases p <;> simp [Op.equalIn, run_underlying h]
  simp only [binOp]
  simp [show Op.equal t (.map p) (.map none) = Op.equalIn (9999 + 1) t (.map p) (.map none) from rfl, h1 9999]
theorem run_assert_map {P : Program} (w : World) (t xT k e : TypeId) (v : Value) (h : P.underlying t = some (.map k e)) : (Instr.typeAssert (.iface t v) xT t false).run P w = .ok v w := by
  simp [Instr.typeAssert, run_underlying h, go_sem, Result.andThen]
theorem run_clone_map {P : Program} {w : World} {r : Nat} {es : Array MapEntry} {clock : Nat} (t : TypeId) (hb : w.heap[r]? = some (.map es clock)) :
    (Extern.MapsClone.clone #[.iface t (.map (some r))]).run P w = .ok (.iface t (.map (some w.heap.size))) (w.alloc (.map es clock)) := by
  have e : Extern.MapsClone.clone #[.iface t (.map (some r))] = (getObj r >>= fun o => match o with
      | .map entries clock => (newObj (.map entries clock) >>= fun n => pure (.iface t (.map (some n))))
      | _ => stuck "maps.clone: a map expected") := rfl
  rw [e]
  simp [MapKept.run_getObj_map hb, Result.andThen, go_sem]
theorem clone_walk (b : Nat) (es : Array MapEntry) (clock : Nat) (w : World) (hb : w.heap[b]? = some (.map es clock)) :
    Calls Go.Proofs.Tryz.prog 129 #[.map (some b)] w fun e w' => e = .returned (.map (some w.heap.size)) ∧ w' = w.alloc (.map es clock) := by
  have hq := fun w => run_map_nil (P := Go.Proofs.Tryz.prog) w 81 _ _ (some b) Go.Proofs.Tryz.underlying81
  go_enter Go.Proofs.Tryz.func129, Go.Proofs.Tryz.ntmps129
  go_wp2
  rw [run_callFunc_extern Go.Proofs.Tryz.func189 (by kernel_rfl) (by kernel_rfl) (by kernel_rfl) (e := Extern.MapsClone.clone) (by kernel_rfl), run_clone_map 81 hb]
  simp only [Result.andThen]
  rw [Oper.upon_value]
  go_wp2
  rw [run_assert_map _ 81 20 _ _ _ Go.Proofs.Tryz.underlying81]
  simp only [Result.andThen]
  rw [Oper.upon_value]
  go_wp2
  go_ret
  exact ⟨rfl, rfl⟩
def cloneL : List V → AHeap → Option (V × AHeap)
  | [.mp b], H => match H[b]? with
    | some (.map ks vs) => some (.mp H.length, H ++ [.map ks vs])
    | _ => none
  | _, _ => none
theorem clone_ok {args : List V} {H : AHeap} {r : V} {H' : AHeap} (h : cloneL args H = some (r, H')) : ACalls ctxR 129 args H (fun v K => v = r ∧ K = H') := by
  unfold cloneL at h
  split at h
  · rename_i b
    split at h
    · rename_i ks vs hm
      injection h with h; injection h with h1 h2; subst h1; subst h2
      intro σ vals hH ok hG hr
      subst hH
      cases hr with
      | cons hp ht =>
      cases ht
      cases hp with
      | mp hid =>
      obtain ⟨es, clock, l, e1, e2, e3, e4, e5, -⟩ := ok.objs b _ hm
      refine (clone_walk (σ.ι b 0) es clock σ.w e1).mono fun e w' ⟨he, hw⟩ => ?_
      obtain ⟨p1, p2⟩ := ok.pushO (ob := .map es clock) (obj := .map ks vs) rfl (fun m => ⟨es, clock, l, by simp only [St.pushO, and_self, if_true]; exact heap_push_new _ _, e2, e3, e4.mon m, e5.mon m, fun j o => by simp [St.pushO]⟩)
      refine ⟨_, .mp σ.H.length, σ.pushO (.map es clock) (.map ks vs), he, by rw [hw]; rfl, ⟨rfl, rfl⟩, ?_, p1, p2⟩
      have := RepV.mp (σ := σ.pushO (.map es clock) (.map ks vs)) (b := σ.H.length) ⟨0, by show ((σ.H ++ [AObj.map ks vs])[σ.H.length]?).map AObj.ver = _; simp [AObj.ver], Nat.le_refl _⟩
      have e : (σ.pushO (.map es clock) (.map ks vs)).ι σ.H.length 0 = σ.w.heap.size := by simp [St.pushO]
      rw [e] at this
      exact this
    · cases h
  · cases h
end Go.Abs
/- bytes.Compare at rows of bytes. -/
namespace Go.Abs
open Go.RowKit
set_option linter.unusedVariables false
set_option maxRecDepth 100000
theorem loadBytes_run {P : Program} {w : World} {b : Nat} : ∀ (ns : List Int) (o : Nat) (acc : ByteArray), (∀ j v, (ns.map (Value.int .u8))[j]? = some v → w.cell? ⟨b, o + j, none⟩ = some v) →
    (Extern.Bytes.loadBytes ⟨b, o, none⟩ ns.length acc).run P w = .ok ⟨⟨acc.data.toList ++ ns.map fun n => UInt8.ofNat n.toNat⟩⟩ w
  | [], o, acc, _ => by
    simp only [List.length_nil, Extern.Bytes.loadBytes]
    show Result.ok acc w = _
    congr 1
    apply ByteArray.ext
    apply Array.ext'
    simp
  | n :: r, o, acc, h => by
    have h0 : w.cell? ⟨b, o, none⟩ = some (.int .u8 n) := h 0 _ rfl
    have e : Extern.Bytes.loadBytes ⟨b, o, none⟩ (r.length + 1) acc = (load ⟨b, o, none⟩ >>= fun v => match v with
      | .int .u8 b' => Extern.Bytes.loadBytes ((⟨b, o, none⟩ : Addr).add 1) r.length (acc.push b'.toNat.toUInt8)
      | _ => stuck "loadBytes: a byte expected") := rfl
    rw [List.length_cons, e]
    have hl : (load ⟨b, o, none⟩).run P w = .ok (.int .u8 n) w := by simp [load, Sem.run, h0]
    rw [Sem.run_bind, hl]
    simp only [Result.andThen]
    rw [add_at, loadBytes_run r (o + 1) _ (fun j v hj => by
      have := h (j + 1) v (by simpa using hj)
      rw [show o + (j + 1) = o + 1 + j by omega] at this
      exact this)]
    congr 1
    apply ByteArray.ext
    apply Array.ext'
    simp [ByteArray.push]
/-- A row's bytes, where they are told. -/
def bytesAt (H : AHeap) : V → Option (List UInt8)
  | .own b ver off (n + 1) _ _ => match objCells H[b]? ver with
    | some (_, cs) => match Nat.ble (off + (n + 1)) cs.length with
      | true => bytesOf ((cs.drop off).take (n + 1))
      | false => none
    | none => none
  | _ => none
theorem bytesAt_rep {σ : St} (ok : σ.ok) {x : V} {l : List UInt8} (h : bytesAt σ.H x = some l) {v : Value} (hr : RepV σ x v) {P : Program} : ∃ (b o n c : Nat) (ns : List Int), v = .slice (some ⟨b, o, none⟩) n c ∧ n = ns.length ∧ (∀ j u, (ns.map (Value.int .u8))[j]? = some u → σ.w.cell? ⟨b, o + j, none⟩ = some u) ∧ l = ns.map fun n => UInt8.ofNat n.toNat := by
  unfold bytesAt at h
  split at h
  · rename_i b ver off n s full
    split at h
    · rename_i lz cs ho
      split at h
      · rename_i hb
        have hle : off + (n + 1) ≤ cs.length := by simpa [Nat.ble_eq] using hb
        obtain ⟨-, c, T, fr, h1, h2, h3, -⟩ := ok.cellsAt ho
        obtain ⟨ns, e1, e2⟩ := bytesOf_rep ((h3.drop off).take (n + 1)) h
        have hlen : n + 1 = ns.length := by
          have := congrArg List.length e1
          simp only [List.length_take, List.length_drop, List.length_map, Array.length_toList] at this
          omega
        cases hr with
        | own hid hc hf =>
          refine ⟨_, off, _, _, ns, rfl, hlen, fun j u hj => ?_, e2⟩
          rw [cell_of h1, ← Array.getElem?_toList]
          rw [← e1] at hj
          have hj1 : j < n + 1 := by
            have := (List.getElem?_eq_some_iff.1 hj).1
            simp only [List.length_take, List.length_drop] at this
            omega
          rw [List.getElem?_take_of_lt hj1, List.getElem?_drop, List.getElem?_take_of_lt (by omega)] at hj
          exact hj
      · cases h
    · cases h
  · cases h
def cmpBy (l m : List UInt8) : Int := Extern.BytealgCompare.cmp ⟨⟨l⟩⟩ ⟨⟨m⟩⟩
theorem compare_walk (w : World) (b o n c b' o' n' c' : Nat) (ns ms : List Int) (h1 : n = ns.length) (h2 : ∀ j u, (ns.map (Value.int .u8))[j]? = some u → w.cell? ⟨b, o + j, none⟩ = some u)
    (h3 : n' = ms.length) (h4 : ∀ j u, (ms.map (Value.int .u8))[j]? = some u → w.cell? ⟨b', o' + j, none⟩ = some u) :
    Calls Go.Proofs.Tryz.prog 101 #[.slice (some ⟨b, o, none⟩) n c, .slice (some ⟨b', o', none⟩) n' c'] w fun e w' => e = .returned (.int .i64 (cmpBy (ns.map fun n => UInt8.ofNat n.toNat) (ms.map fun n => UInt8.ofNat n.toNat))) ∧ w' = w := by
  have hx : (Extern.BytealgCompare.compare #[.slice (some ⟨b, o, none⟩) n c, .slice (some ⟨b', o', none⟩) n' c']).run Go.Proofs.Tryz.prog w = .ok (.int .i64 (cmpBy (ns.map fun n => UInt8.ofNat n.toNat) (ms.map fun n => UInt8.ofNat n.toNat))) w := by
    subst h1; subst h3
    have e : Extern.BytealgCompare.compare #[.slice (some ⟨b, o, none⟩) ns.length c, .slice (some ⟨b', o', none⟩) ms.length c'] = (Extern.Bytes.loadBytes ⟨b, o, none⟩ ns.length .empty >>= fun x => Extern.Bytes.loadBytes ⟨b', o', none⟩ ms.length .empty >>= fun y => pure (goInt (Extern.BytealgCompare.cmp x y))) := rfl
    rw [e, Sem.run_bind, loadBytes_run ns o .empty h2]
    simp only [Result.andThen]
    rw [Sem.run_bind, loadBytes_run ms o' .empty h4]
    rfl
  clear h1 h2 h3 h4
  go_enter Go.Proofs.Tryz.func101, Go.Proofs.Tryz.ntmps101
  go_wp2
  rw [run_callFunc_extern Go.Proofs.Tryz.func173 (by kernel_rfl) (by kernel_rfl) (by kernel_rfl) (e := Extern.BytealgCompare.compare) (by kernel_rfl), hx]
  simp only [Result.andThen]
  rw [Oper.upon_value]
  go_wp2
  go_ret
  exact ⟨rfl, rfl⟩
def compareL : List V → AHeap → Option (V × AHeap)
  | [x, y], H => match bytesAt H x, bytesAt H y with
    | some l, some m => some (.p (.lit (.int .i64 (cmpBy l m))), H)
    | _, _ => none
  | _, _ => none
theorem compare_ok {args : List V} {H : AHeap} {r : V} {H' : AHeap} (h : compareL args H = some (r, H')) : ACalls ctxR 101 args H (fun v K => v = r ∧ K = H') := by
  unfold compareL at h
  split at h
  · rename_i x y
    split at h
    · rename_i l m hl hm
      injection h with h; injection h with h1 h2; subst h1; subst h2
      intro σ vals hH ok hG hr
      subst hH
      cases hr with
      | cons hp ht =>
      cases ht with
      | cons hq ht =>
      cases ht
      obtain ⟨b, o, n, c, ns, e1, e2, e3, e4⟩ := bytesAt_rep (P := Go.Proofs.Tryz.prog) ok hl hp
      obtain ⟨b', o', n', c', ms, f1, f2, f3, f4⟩ := bytesAt_rep (P := Go.Proofs.Tryz.prog) ok hm hq
      subst e1; subst f1; subst e4; subst f4
      refine (compare_walk σ.w b o n c b' o' n' c' ns ms e2 e3 f2 f3).mono fun e w' ⟨he, hw⟩ => ?_
      exact ⟨_, _, σ, he, hw.symm, ⟨rfl, rfl⟩, .p (.lit rfl), ok, Ext.refl σ⟩
    · cases h
  · cases h
end Go.Abs

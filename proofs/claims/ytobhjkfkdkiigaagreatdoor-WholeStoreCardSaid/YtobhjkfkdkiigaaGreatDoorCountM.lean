/- Layer 6 on a seat with layers 3 to 5: sets and maps of ints are those of NodeG and QuanM. -/
import Derived.Test.YtobhjkfkdkiigaaGreatDoorQuanM
import Derived.Test.YtobhjkfkdkiigaaGreatDoorCount0
namespace Go.Proofs.YtobhjkfkdkiigaaGreatDoor
end Go.Proofs.YtobhjkfkdkiigaaGreatDoor

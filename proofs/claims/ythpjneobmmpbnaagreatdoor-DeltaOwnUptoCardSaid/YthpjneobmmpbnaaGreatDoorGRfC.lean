/- The walk of the document's spare of a transaction. Condition: bulk at most 2^20. -/
import Derived.Test.YthpjneobmmpbnaaGreatDoorGRfB
